/- A part of the proof of FnHelloRead. Texts put together: VHT3, PHT3, PHS4, VHT4, VHT5, PHT5, VHT6, PHT6, VHT7, PHT7, PHDX, VHD0, PHD0. -/
import Derived.Test.YtpeklolpimhioaaRows
import Derived.Test.YtpeklolpimhioaaZC29C
namespace Go.Proofs.Ytpeklolpimhioaa
open Go.RowKit
set_option maxRecDepth 100000
set_option linter.unusedVariables false
set_option linter.unusedSimpArgs false
theorem kc89 (e1:Ud) {K_:Prop} (k_:K_):(True)/\(Imps (eHelloEnd e1) (eHelloEnd e1))/\K_:=⟨trivial,Imps.refl _,k_⟩
abbrev kh89 (e1:Ud):Hint true Try.prog:=.call 89 (S89 e1) (ok89 e1) none
def F86al_j0 (e1:Ud) (w1:HelloWord):Lp (Int×Int×List HelloKey×Int×List Ue×Int×Int×Int×Bool×Int×Int×Int×Int×Int×Int×Int×List Ue×Bool×Int×Bool×List Uf×Int) Ud :=
 bif (decide (w1.Boot>e1.PeerBoot)) then (.done ((F89 e1).Name,(F89 e1).Peer,(F89 e1).Keys,(F89 e1).Boot,(F89 e1).Want,(F89 e1).Turn,w1.Boot,(F89 e1).PeerTurn,(F89 e1).Up,(F89 e1).Left,(F89 e1).Num,(F89 e1).Under.Kind,(F89 e1).Under.Entry.Addr,(F89 e1).Under.Entry.Len,(F89 e1).Under.Entry.Cost,(F89 e1).Under.Entry.Label,(F89 e1).Told,(F89 e1).All,(F89 e1).Got,(F89 e1).Full,(F89 e1).Heard,(F89 e1).Keep)) else (.done (e1.Name,e1.Peer,e1.Keys,e1.Boot,e1.Want,e1.Turn,e1.PeerBoot,e1.PeerTurn,e1.Up,e1.Left,e1.Num,e1.Under.Kind,e1.Under.Entry.Addr,e1.Under.Entry.Len,e1.Under.Entry.Cost,e1.Under.Entry.Label,e1.Told,e1.All,e1.Got,e1.Full,e1.Heard,e1.Keep))
def F86al_j1 (e1:Ud) (w1:HelloWord) (e2:Int) (e3:Int) (e4:List HelloKey) (e5:Int) (e6:List Ue) (e7:Int) (e8:Int) (e9:Int) (e10:Bool) (e11:Int) (e12:Int) (e13:Int) (e14:Int) (e15:Int) (e16:Int) (e17:Int) (e18:List Ue) (e19:Bool) (e20:Int) (e21:Bool) (e22:List Uf) (e23:Int):Lp (Int×Int×List HelloKey×Int×List Ue×Int×Int×Int×Bool×Int×Int×Int×Int×Int×Int×Int×List Ue×Bool×Int×Bool×List Uf×Int) Ud :=
 bif (bif decide (e13>0) then (w1.Heard==e12) else false) then (.done ((F91 ⟨e2,e3,e4,e5,e6,e7,e8,w1.Turn,(w1.Yours==e5),4,e12,(⟨e13,(⟨e14,e15,e16,e17⟩:Ue)⟩:HelloChange),e18,e19,e20,e21,e22,e23⟩).Name,(F91 ⟨e2,e3,e4,e5,e6,e7,e8,w1.Turn,(w1.Yours==e5),4,e12,(⟨e13,(⟨e14,e15,e16,e17⟩:Ue)⟩:HelloChange),e18,e19,e20,e21,e22,e23⟩).Peer,(F91 ⟨e2,e3,e4,e5,e6,e7,e8,w1.Turn,(w1.Yours==e5),4,e12,(⟨e13,(⟨e14,e15,e16,e17⟩:Ue)⟩:HelloChange),e18,e19,e20,e21,e22,e23⟩).Keys,(F91 ⟨e2,e3,e4,e5,e6,e7,e8,w1.Turn,(w1.Yours==e5),4,e12,(⟨e13,(⟨e14,e15,e16,e17⟩:Ue)⟩:HelloChange),e18,e19,e20,e21,e22,e23⟩).Boot,(F91 ⟨e2,e3,e4,e5,e6,e7,e8,w1.Turn,(w1.Yours==e5),4,e12,(⟨e13,(⟨e14,e15,e16,e17⟩:Ue)⟩:HelloChange),e18,e19,e20,e21,e22,e23⟩).Want,(F91 ⟨e2,e3,e4,e5,e6,e7,e8,w1.Turn,(w1.Yours==e5),4,e12,(⟨e13,(⟨e14,e15,e16,e17⟩:Ue)⟩:HelloChange),e18,e19,e20,e21,e22,e23⟩).Turn,(F91 ⟨e2,e3,e4,e5,e6,e7,e8,w1.Turn,(w1.Yours==e5),4,e12,(⟨e13,(⟨e14,e15,e16,e17⟩:Ue)⟩:HelloChange),e18,e19,e20,e21,e22,e23⟩).PeerBoot,(F91 ⟨e2,e3,e4,e5,e6,e7,e8,w1.Turn,(w1.Yours==e5),4,e12,(⟨e13,(⟨e14,e15,e16,e17⟩:Ue)⟩:HelloChange),e18,e19,e20,e21,e22,e23⟩).PeerTurn,(F91 ⟨e2,e3,e4,e5,e6,e7,e8,w1.Turn,(w1.Yours==e5),4,e12,(⟨e13,(⟨e14,e15,e16,e17⟩:Ue)⟩:HelloChange),e18,e19,e20,e21,e22,e23⟩).Up,(F91 ⟨e2,e3,e4,e5,e6,e7,e8,w1.Turn,(w1.Yours==e5),4,e12,(⟨e13,(⟨e14,e15,e16,e17⟩:Ue)⟩:HelloChange),e18,e19,e20,e21,e22,e23⟩).Left,(F91 ⟨e2,e3,e4,e5,e6,e7,e8,w1.Turn,(w1.Yours==e5),4,e12,(⟨e13,(⟨e14,e15,e16,e17⟩:Ue)⟩:HelloChange),e18,e19,e20,e21,e22,e23⟩).Num,(F91 ⟨e2,e3,e4,e5,e6,e7,e8,w1.Turn,(w1.Yours==e5),4,e12,(⟨e13,(⟨e14,e15,e16,e17⟩:Ue)⟩:HelloChange),e18,e19,e20,e21,e22,e23⟩).Under.Kind,(F91 ⟨e2,e3,e4,e5,e6,e7,e8,w1.Turn,(w1.Yours==e5),4,e12,(⟨e13,(⟨e14,e15,e16,e17⟩:Ue)⟩:HelloChange),e18,e19,e20,e21,e22,e23⟩).Under.Entry.Addr,(F91 ⟨e2,e3,e4,e5,e6,e7,e8,w1.Turn,(w1.Yours==e5),4,e12,(⟨e13,(⟨e14,e15,e16,e17⟩:Ue)⟩:HelloChange),e18,e19,e20,e21,e22,e23⟩).Under.Entry.Len,(F91 ⟨e2,e3,e4,e5,e6,e7,e8,w1.Turn,(w1.Yours==e5),4,e12,(⟨e13,(⟨e14,e15,e16,e17⟩:Ue)⟩:HelloChange),e18,e19,e20,e21,e22,e23⟩).Under.Entry.Cost,(F91 ⟨e2,e3,e4,e5,e6,e7,e8,w1.Turn,(w1.Yours==e5),4,e12,(⟨e13,(⟨e14,e15,e16,e17⟩:Ue)⟩:HelloChange),e18,e19,e20,e21,e22,e23⟩).Under.Entry.Label,(F91 ⟨e2,e3,e4,e5,e6,e7,e8,w1.Turn,(w1.Yours==e5),4,e12,(⟨e13,(⟨e14,e15,e16,e17⟩:Ue)⟩:HelloChange),e18,e19,e20,e21,e22,e23⟩).Told,(F91 ⟨e2,e3,e4,e5,e6,e7,e8,w1.Turn,(w1.Yours==e5),4,e12,(⟨e13,(⟨e14,e15,e16,e17⟩:Ue)⟩:HelloChange),e18,e19,e20,e21,e22,e23⟩).All,(F91 ⟨e2,e3,e4,e5,e6,e7,e8,w1.Turn,(w1.Yours==e5),4,e12,(⟨e13,(⟨e14,e15,e16,e17⟩:Ue)⟩:HelloChange),e18,e19,e20,e21,e22,e23⟩).Got,(F91 ⟨e2,e3,e4,e5,e6,e7,e8,w1.Turn,(w1.Yours==e5),4,e12,(⟨e13,(⟨e14,e15,e16,e17⟩:Ue)⟩:HelloChange),e18,e19,e20,e21,e22,e23⟩).Full,(F91 ⟨e2,e3,e4,e5,e6,e7,e8,w1.Turn,(w1.Yours==e5),4,e12,(⟨e13,(⟨e14,e15,e16,e17⟩:Ue)⟩:HelloChange),e18,e19,e20,e21,e22,e23⟩).Heard,(F91 ⟨e2,e3,e4,e5,e6,e7,e8,w1.Turn,(w1.Yours==e5),4,e12,(⟨e13,(⟨e14,e15,e16,e17⟩:Ue)⟩:HelloChange),e18,e19,e20,e21,e22,e23⟩).Keep)) else (.done (e2,e3,e4,e5,e6,e7,e8,w1.Turn,(w1.Yours==e5),4,e12,e13,e14,e15,e16,e17,e18,e19,e20,e21,e22,e23))
def F86al_j2 (e1:Ud) (w1:HelloWord) (e2:Int) (e3:Int) (e4:List HelloKey) (e5:Int) (e6:List Ue) (e7:Int) (e8:Int) (e9:Int) (e10:Bool) (e11:Int) (e12:Int) (e13:Int) (e14:Int) (e15:Int) (e16:Int) (e17:Int) (e18:List Ue) (e19:Bool) (e20:Int) (e21:Bool) (e22:List Uf) (e23:Int) (e24:Int) (e25:Int) (e26:List HelloKey) (e27:Int) (e28:List Ue) (e29:Int) (e30:Int) (e31:Int) (e32:Bool) (e33:Int) (e34:Int) (e35:Int) (e36:Int) (e37:Int) (e38:Int) (e39:Int) (e40:List Ue) (e41:Bool) (e42:Int) (e43:Bool) (e44:List Uf) (e45:Int):Lp (Int×Bool) Ud :=
 bif (bif decide (w1.Change.Kind>0) then (w1.Num==(IntKind.i64.wrap (e42+1))) else false) then (bif (w1.Change.Kind==2) then (.done (w1.Num,(bif e43 then true else (w1.Change.Kind==3)))) else (.done (e42,e43))) else (.done (e42,e43))
def F86al (e1:Ud) (w1:HelloWord):Ud :=
 (F86al_j0 e1 w1).fin (fun r=>r) (fun (e2,e3,e4,e5,e6,e7,e8,e9,e10,e11,e12,e13,e14,e15,e16,e17,e18,e19,e20,e21,e22,e23)=>bif (!(w1.Yours==e5)) then (⟨e2,e3,e4,e5,e6,e7,e8,w1.Turn,(w1.Yours==e5),4,e12,(⟨e13,(⟨e14,e15,e16,e17⟩:Ue)⟩:HelloChange),e18,e19,e20,e21,e22,e23⟩:Ud) else ((F86al_j1 e1 w1 e2 e3 e4 e5 e6 e7 e8 e9 e10 e11 e12 e13 e14 e15 e16 e17 e18 e19 e20 e21 e22 e23).fin (fun r=>r) (fun (e24,e25,e26,e27,e28,e29,e30,e31,e32,e33,e34,e35,e36,e37,e38,e39,e40,e41,e42,e43,e44,e45)=>(F86al_j2 e1 w1 e2 e3 e4 e5 e6 e7 e8 e9 e10 e11 e12 e13 e14 e15 e16 e17 e18 e19 e20 e21 e22 e23 e24 e25 e26 e27 e28 e29 e30 e31 e32 e33 e34 e35 e36 e37 e38 e39 e40 e41 e42 e43 e44 e45).fin (fun r=>r) (fun (e46,e47)=>(F93 ⟨e24,e25,e26,e27,e28,e29,e30,e31,e32,e33,e34,(⟨e35,(⟨e36,e37,e38,e39⟩:Ue)⟩:HelloChange),e40,e41,e46,e47,e44,e45⟩)))))
abbrev jI86al_0 (e1:Ud) (w1:HelloWord) (e2:Int) (e3:Int) (e4:List HelloKey) (e5:Int) (e6:List Ue) (e7:Int) (e8:Int) (e9:Int) (e10:Bool) (e11:Int) (e12:Int) (e13:Int) (e14:Int) (e15:Int) (e16:Int) (e17:Int) (e18:List Ue) (e19:Bool) (e20:Int) (e21:Bool) (e22:List Uf) (e23:Int):Prop:=LJ 8 e1 w1 e4 e6 e18 e22/\True
abbrev jJ86al_0 (e1:Ud) (w1:HelloWord) (j:Int×Int×List HelloKey×Int×List Ue×Int×Int×Int×Bool×Int×Int×Int×Int×Int×Int×Int×List Ue×Bool×Int×Bool×List Uf×Int):Prop:=(F86al_j0 e1 w1)=Lp.done j/\jI86al_0 e1 w1 j.1 j.2.1 j.2.2.1 j.2.2.2.1 j.2.2.2.2.1 j.2.2.2.2.2.1 j.2.2.2.2.2.2.1 j.2.2.2.2.2.2.2.1 j.2.2.2.2.2.2.2.2.1 j.2.2.2.2.2.2.2.2.2.1 j.2.2.2.2.2.2.2.2.2.2.1 j.2.2.2.2.2.2.2.2.2.2.2.1 j.2.2.2.2.2.2.2.2.2.2.2.2.1 j.2.2.2.2.2.2.2.2.2.2.2.2.2.1 j.2.2.2.2.2.2.2.2.2.2.2.2.2.2.1 j.2.2.2.2.2.2.2.2.2.2.2.2.2.2.2.1 j.2.2.2.2.2.2.2.2.2.2.2.2.2.2.2.2.1 j.2.2.2.2.2.2.2.2.2.2.2.2.2.2.2.2.2.1 j.2.2.2.2.2.2.2.2.2.2.2.2.2.2.2.2.2.2.1 j.2.2.2.2.2.2.2.2.2.2.2.2.2.2.2.2.2.2.2.1 j.2.2.2.2.2.2.2.2.2.2.2.2.2.2.2.2.2.2.2.2.1 j.2.2.2.2.2.2.2.2.2.2.2.2.2.2.2.2.2.2.2.2.2
theorem jn86al_0 (e1:Ud) (w1:HelloWord) (e2:Int) (e3:Int) (e4:List HelloKey) (e5:Int) (e6:List Ue) (e7:Int) (e8:Int) (e9:Int) (e10:Bool) (e11:Int) (e12:Int) (e13:Int) (e14:Int) (e15:Int) (e16:Int) (e17:Int) (e18:List Ue) (e19:Bool) (e20:Int) (e21:Bool) (e22:List Uf) (e23:Int) (e:(F86al_j0 e1 w1)=Lp.done (e2,e3,e4,e5,e6,e7,e8,e9,e10,e11,e12,e13,e14,e15,e16,e17,e18,e19,e20,e21,e22,e23)) (h:jI86al_0 e1 w1 e2 e3 e4 e5 e6 e7 e8 e9 e10 e11 e12 e13 e14 e15 e16 e17 e18 e19 e20 e21 e22 e23):∃ j:Int×Int×List HelloKey×Int×List Ue×Int×Int×Int×Bool×Int×Int×Int×Int×Int×Int×Int×List Ue×Bool×Int×Bool×List Uf×Int,((.int .i64 e2:Value)=.int .i64 j.1)/\((.int .i64 e3:Value)=.int .i64 j.2.1)/\((.int .i64 e5:Value)=.int .i64 j.2.2.2.1)/\((.int .i64 e7:Value)=.int .i64 j.2.2.2.2.2.1)/\((.int .i64 e8:Value)=.int .i64 j.2.2.2.2.2.2.1)/\((.int .i64 e9:Value)=.int .i64 j.2.2.2.2.2.2.2.1)/\((.bool e10:Value)=.bool j.2.2.2.2.2.2.2.2.1)/\((.int .i64 e11:Value)=.int .i64 j.2.2.2.2.2.2.2.2.2.1)/\((.int .i64 e12:Value)=.int .i64 j.2.2.2.2.2.2.2.2.2.2.1)/\((.int .i64 e13:Value)=.int .i64 j.2.2.2.2.2.2.2.2.2.2.2.1)/\((.int .i64 e14:Value)=.int .i64 j.2.2.2.2.2.2.2.2.2.2.2.2.1)/\((.int .i64 e15:Value)=.int .i64 j.2.2.2.2.2.2.2.2.2.2.2.2.2.1)/\((.int .i64 e16:Value)=.int .i64 j.2.2.2.2.2.2.2.2.2.2.2.2.2.2.1)/\((.int .i64 e17:Value)=.int .i64 j.2.2.2.2.2.2.2.2.2.2.2.2.2.2.2.1)/\((.bool e19:Value)=.bool j.2.2.2.2.2.2.2.2.2.2.2.2.2.2.2.2.2.1)/\((.int .i64 e20:Value)=.int .i64 j.2.2.2.2.2.2.2.2.2.2.2.2.2.2.2.2.2.2.1)/\((.bool e21:Value)=.bool j.2.2.2.2.2.2.2.2.2.2.2.2.2.2.2.2.2.2.2.1)/\((.int .i64 e23:Value)=.int .i64 j.2.2.2.2.2.2.2.2.2.2.2.2.2.2.2.2.2.2.2.2.2)/\(Imp (.l 2 eHelloKey e4) (.l 2 eHelloKey j.2.2.1))/\(Imp (.l 4 eHelloEntry e6) (.l 4 eHelloEntry j.2.2.2.2.1))/\(Imp (.l 4 eHelloEntry e18) (.l 4 eHelloEntry j.2.2.2.2.2.2.2.2.2.2.2.2.2.2.2.2.1))/\(Imp (.l 5 eHelloRoute e22) (.l 5 eHelloRoute j.2.2.2.2.2.2.2.2.2.2.2.2.2.2.2.2.2.2.2.2.1))/\((.int .i64 w1.From:Value)=.int .i64 w1.From)/\((.int .i64 w1.To:Value)=.int .i64 w1.To)/\((.int .i64 w1.Key:Value)=.int .i64 w1.Key)/\((.int .i64 w1.Boot:Value)=.int .i64 w1.Boot)/\((.int .i64 w1.Yours:Value)=.int .i64 w1.Yours)/\((.int .i64 w1.Turn:Value)=.int .i64 w1.Turn)/\((.int .i64 w1.Num:Value)=.int .i64 w1.Num)/\((.int .i64 w1.Heard:Value)=.int .i64 w1.Heard)/\((.int .i64 w1.Change.Kind:Value)=.int .i64 w1.Change.Kind)/\((.int .i64 w1.Change.Entry.Addr:Value)=.int .i64 w1.Change.Entry.Addr)/\((.int .i64 w1.Change.Entry.Len:Value)=.int .i64 w1.Change.Entry.Len)/\((.int .i64 w1.Change.Entry.Cost:Value)=.int .i64 w1.Change.Entry.Cost)/\((.int .i64 w1.Change.Entry.Label:Value)=.int .i64 w1.Change.Entry.Label)/\((.int .i64 w1.Sum:Value)=.int .i64 w1.Sum)/\((.int .i64 0:Value)=.int .i64 0)/\((.int .i64 0:Value)=.int .i64 0)/\((.slice none 0 0:Value)=.slice none 0 0)/\((.int .i64 0:Value)=.int .i64 0)/\((.slice none 0 0:Value)=.slice none 0 0)/\((.int .i64 0:Value)=.int .i64 0)/\((.int .i64 0:Value)=.int .i64 0)/\((.int .i64 0:Value)=.int .i64 0)/\((.bool false:Value)=.bool false)/\((.int .i64 0:Value)=.int .i64 0)/\((.int .i64 0:Value)=.int .i64 0)/\((.int .i64 0:Value)=.int .i64 0)/\((.int .i64 0:Value)=.int .i64 0)/\((.int .i64 0:Value)=.int .i64 0)/\((.int .i64 0:Value)=.int .i64 0)/\((.int .i64 0:Value)=.int .i64 0)/\((.slice none 0 0:Value)=.slice none 0 0)/\((.bool false:Value)=.bool false)/\((.int .i64 0:Value)=.int .i64 0)/\((.bool false:Value)=.bool false)/\((.slice none 0 0:Value)=.slice none 0 0)/\((.int .i64 0:Value)=.int .i64 0)/\jJ86al_0 e1 w1 j:=⟨(e2,e3,e4,e5,e6,e7,e8,e9,e10,e11,e12,e13,e14,e15,e16,e17,e18,e19,e20,e21,e22,e23),rfl,rfl,rfl,rfl,rfl,rfl,rfl,rfl,rfl,rfl,rfl,rfl,rfl,rfl,rfl,rfl,rfl,rfl,Imp.refl _,Imp.refl _,Imp.refl _,Imp.refl _,rfl,rfl,rfl,rfl,rfl,rfl,rfl,rfl,rfl,rfl,rfl,rfl,rfl,rfl,rfl,rfl,rfl,rfl,rfl,rfl,rfl,rfl,rfl,rfl,rfl,rfl,rfl,rfl,rfl,rfl,rfl,rfl,rfl,rfl,rfl,rfl,e,h⟩
abbrev jI86al_1 (e1:Ud) (w1:HelloWord) (e2:Int) (e3:Int) (e4:List HelloKey) (e5:Int) (e6:List Ue) (e7:Int) (e8:Int) (e9:Int) (e10:Bool) (e11:Int) (e12:Int) (e13:Int) (e14:Int) (e15:Int) (e16:Int) (e17:Int) (e18:List Ue) (e19:Bool) (e20:Int) (e21:Bool) (e22:List Uf) (e23:Int) (e24:Int) (e25:Int) (e26:List HelloKey) (e27:Int) (e28:List Ue) (e29:Int) (e30:Int) (e31:Int) (e32:Bool) (e33:Int) (e34:Int) (e35:Int) (e36:Int) (e37:Int) (e38:Int) (e39:Int) (e40:List Ue) (e41:Bool) (e42:Int) (e43:Bool) (e44:List Uf) (e45:Int):Prop:=LJ 9 e1 w1 e26 e28 e40 e44/\True
abbrev jJ86al_1 (e1:Ud) (w1:HelloWord) (e2:Int) (e3:Int) (e4:List HelloKey) (e5:Int) (e6:List Ue) (e7:Int) (e8:Int) (e9:Int) (e10:Bool) (e11:Int) (e12:Int) (e13:Int) (e14:Int) (e15:Int) (e16:Int) (e17:Int) (e18:List Ue) (e19:Bool) (e20:Int) (e21:Bool) (e22:List Uf) (e23:Int) (j:Int×Int×List HelloKey×Int×List Ue×Int×Int×Int×Bool×Int×Int×Int×Int×Int×Int×Int×List Ue×Bool×Int×Bool×List Uf×Int):Prop:=(F86al_j1 e1 w1 e2 e3 e4 e5 e6 e7 e8 e9 e10 e11 e12 e13 e14 e15 e16 e17 e18 e19 e20 e21 e22 e23)=Lp.done j/\jI86al_1 e1 w1 e2 e3 e4 e5 e6 e7 e8 e9 e10 e11 e12 e13 e14 e15 e16 e17 e18 e19 e20 e21 e22 e23 j.1 j.2.1 j.2.2.1 j.2.2.2.1 j.2.2.2.2.1 j.2.2.2.2.2.1 j.2.2.2.2.2.2.1 j.2.2.2.2.2.2.2.1 j.2.2.2.2.2.2.2.2.1 j.2.2.2.2.2.2.2.2.2.1 j.2.2.2.2.2.2.2.2.2.2.1 j.2.2.2.2.2.2.2.2.2.2.2.1 j.2.2.2.2.2.2.2.2.2.2.2.2.1 j.2.2.2.2.2.2.2.2.2.2.2.2.2.1 j.2.2.2.2.2.2.2.2.2.2.2.2.2.2.1 j.2.2.2.2.2.2.2.2.2.2.2.2.2.2.2.1 j.2.2.2.2.2.2.2.2.2.2.2.2.2.2.2.2.1 j.2.2.2.2.2.2.2.2.2.2.2.2.2.2.2.2.2.1 j.2.2.2.2.2.2.2.2.2.2.2.2.2.2.2.2.2.2.1 j.2.2.2.2.2.2.2.2.2.2.2.2.2.2.2.2.2.2.2.1 j.2.2.2.2.2.2.2.2.2.2.2.2.2.2.2.2.2.2.2.2.1 j.2.2.2.2.2.2.2.2.2.2.2.2.2.2.2.2.2.2.2.2.2
theorem jn86al_1 (e1:Ud) (w1:HelloWord) (e2:Int) (e3:Int) (e4:List HelloKey) (e5:Int) (e6:List Ue) (e7:Int) (e8:Int) (e9:Int) (e10:Bool) (e11:Int) (e12:Int) (e13:Int) (e14:Int) (e15:Int) (e16:Int) (e17:Int) (e18:List Ue) (e19:Bool) (e20:Int) (e21:Bool) (e22:List Uf) (e23:Int) (e24:Int) (e25:Int) (e26:List HelloKey) (e27:Int) (e28:List Ue) (e29:Int) (e30:Int) (e31:Int) (e32:Bool) (e33:Int) (e34:Int) (e35:Int) (e36:Int) (e37:Int) (e38:Int) (e39:Int) (e40:List Ue) (e41:Bool) (e42:Int) (e43:Bool) (e44:List Uf) (e45:Int) (e:(F86al_j1 e1 w1 e2 e3 e4 e5 e6 e7 e8 e9 e10 e11 e12 e13 e14 e15 e16 e17 e18 e19 e20 e21 e22 e23)=Lp.done (e24,e25,e26,e27,e28,e29,e30,e31,e32,e33,e34,e35,e36,e37,e38,e39,e40,e41,e42,e43,e44,e45)) (h:jI86al_1 e1 w1 e2 e3 e4 e5 e6 e7 e8 e9 e10 e11 e12 e13 e14 e15 e16 e17 e18 e19 e20 e21 e22 e23 e24 e25 e26 e27 e28 e29 e30 e31 e32 e33 e34 e35 e36 e37 e38 e39 e40 e41 e42 e43 e44 e45):∃ j:Int×Int×List HelloKey×Int×List Ue×Int×Int×Int×Bool×Int×Int×Int×Int×Int×Int×Int×List Ue×Bool×Int×Bool×List Uf×Int,((.int .i64 e24:Value)=.int .i64 j.1)/\((.int .i64 e25:Value)=.int .i64 j.2.1)/\((.int .i64 e27:Value)=.int .i64 j.2.2.2.1)/\((.int .i64 e29:Value)=.int .i64 j.2.2.2.2.2.1)/\((.int .i64 e30:Value)=.int .i64 j.2.2.2.2.2.2.1)/\((.int .i64 e31:Value)=.int .i64 j.2.2.2.2.2.2.2.1)/\((.bool e32:Value)=.bool j.2.2.2.2.2.2.2.2.1)/\((.int .i64 e33:Value)=.int .i64 j.2.2.2.2.2.2.2.2.2.1)/\((.int .i64 e34:Value)=.int .i64 j.2.2.2.2.2.2.2.2.2.2.1)/\((.int .i64 e35:Value)=.int .i64 j.2.2.2.2.2.2.2.2.2.2.2.1)/\((.int .i64 e36:Value)=.int .i64 j.2.2.2.2.2.2.2.2.2.2.2.2.1)/\((.int .i64 e37:Value)=.int .i64 j.2.2.2.2.2.2.2.2.2.2.2.2.2.1)/\((.int .i64 e38:Value)=.int .i64 j.2.2.2.2.2.2.2.2.2.2.2.2.2.2.1)/\((.int .i64 e39:Value)=.int .i64 j.2.2.2.2.2.2.2.2.2.2.2.2.2.2.2.1)/\((.bool e41:Value)=.bool j.2.2.2.2.2.2.2.2.2.2.2.2.2.2.2.2.2.1)/\((.int .i64 e42:Value)=.int .i64 j.2.2.2.2.2.2.2.2.2.2.2.2.2.2.2.2.2.2.1)/\((.bool e43:Value)=.bool j.2.2.2.2.2.2.2.2.2.2.2.2.2.2.2.2.2.2.2.1)/\((.int .i64 e45:Value)=.int .i64 j.2.2.2.2.2.2.2.2.2.2.2.2.2.2.2.2.2.2.2.2.2)/\(Imp (.l 2 eHelloKey e26) (.l 2 eHelloKey j.2.2.1))/\(Imp (.l 4 eHelloEntry e28) (.l 4 eHelloEntry j.2.2.2.2.1))/\(Imp (.l 4 eHelloEntry e40) (.l 4 eHelloEntry j.2.2.2.2.2.2.2.2.2.2.2.2.2.2.2.2.1))/\(Imp (.l 5 eHelloRoute e44) (.l 5 eHelloRoute j.2.2.2.2.2.2.2.2.2.2.2.2.2.2.2.2.2.2.2.2.1))/\((.int .i64 w1.From:Value)=.int .i64 w1.From)/\((.int .i64 w1.To:Value)=.int .i64 w1.To)/\((.int .i64 w1.Key:Value)=.int .i64 w1.Key)/\((.int .i64 w1.Boot:Value)=.int .i64 w1.Boot)/\((.int .i64 w1.Yours:Value)=.int .i64 w1.Yours)/\((.int .i64 w1.Turn:Value)=.int .i64 w1.Turn)/\((.int .i64 w1.Num:Value)=.int .i64 w1.Num)/\((.int .i64 w1.Heard:Value)=.int .i64 w1.Heard)/\((.int .i64 w1.Change.Kind:Value)=.int .i64 w1.Change.Kind)/\((.int .i64 w1.Change.Entry.Addr:Value)=.int .i64 w1.Change.Entry.Addr)/\((.int .i64 w1.Change.Entry.Len:Value)=.int .i64 w1.Change.Entry.Len)/\((.int .i64 w1.Change.Entry.Cost:Value)=.int .i64 w1.Change.Entry.Cost)/\((.int .i64 w1.Change.Entry.Label:Value)=.int .i64 w1.Change.Entry.Label)/\((.int .i64 w1.Sum:Value)=.int .i64 w1.Sum)/\((.int .i64 0:Value)=.int .i64 0)/\((.int .i64 0:Value)=.int .i64 0)/\((.slice none 0 0:Value)=.slice none 0 0)/\((.int .i64 0:Value)=.int .i64 0)/\((.slice none 0 0:Value)=.slice none 0 0)/\((.int .i64 0:Value)=.int .i64 0)/\((.int .i64 0:Value)=.int .i64 0)/\((.int .i64 0:Value)=.int .i64 0)/\((.bool false:Value)=.bool false)/\((.int .i64 0:Value)=.int .i64 0)/\((.int .i64 0:Value)=.int .i64 0)/\((.int .i64 0:Value)=.int .i64 0)/\((.int .i64 0:Value)=.int .i64 0)/\((.int .i64 0:Value)=.int .i64 0)/\((.int .i64 0:Value)=.int .i64 0)/\((.int .i64 0:Value)=.int .i64 0)/\((.slice none 0 0:Value)=.slice none 0 0)/\((.bool false:Value)=.bool false)/\((.int .i64 0:Value)=.int .i64 0)/\((.bool false:Value)=.bool false)/\((.slice none 0 0:Value)=.slice none 0 0)/\((.int .i64 0:Value)=.int .i64 0)/\jJ86al_1 e1 w1 e2 e3 e4 e5 e6 e7 e8 e9 e10 e11 e12 e13 e14 e15 e16 e17 e18 e19 e20 e21 e22 e23 j:=⟨(e24,e25,e26,e27,e28,e29,e30,e31,e32,e33,e34,e35,e36,e37,e38,e39,e40,e41,e42,e43,e44,e45),rfl,rfl,rfl,rfl,rfl,rfl,rfl,rfl,rfl,rfl,rfl,rfl,rfl,rfl,rfl,rfl,rfl,rfl,Imp.refl _,Imp.refl _,Imp.refl _,Imp.refl _,rfl,rfl,rfl,rfl,rfl,rfl,rfl,rfl,rfl,rfl,rfl,rfl,rfl,rfl,rfl,rfl,rfl,rfl,rfl,rfl,rfl,rfl,rfl,rfl,rfl,rfl,rfl,rfl,rfl,rfl,rfl,rfl,rfl,rfl,rfl,rfl,e,h⟩
abbrev jJ86al_2 (e1:Ud) (w1:HelloWord) (e2:Int) (e3:Int) (e4:List HelloKey) (e5:Int) (e6:List Ue) (e7:Int) (e8:Int) (e9:Int) (e10:Bool) (e11:Int) (e12:Int) (e13:Int) (e14:Int) (e15:Int) (e16:Int) (e17:Int) (e18:List Ue) (e19:Bool) (e20:Int) (e21:Bool) (e22:List Uf) (e23:Int) (e24:Int) (e25:Int) (e26:List HelloKey) (e27:Int) (e28:List Ue) (e29:Int) (e30:Int) (e31:Int) (e32:Bool) (e33:Int) (e34:Int) (e35:Int) (e36:Int) (e37:Int) (e38:Int) (e39:Int) (e40:List Ue) (e41:Bool) (e42:Int) (e43:Bool) (e44:List Uf) (e45:Int) (j:Int×Bool):Prop:=(F86al_j2 e1 w1 e2 e3 e4 e5 e6 e7 e8 e9 e10 e11 e12 e13 e14 e15 e16 e17 e18 e19 e20 e21 e22 e23 e24 e25 e26 e27 e28 e29 e30 e31 e32 e33 e34 e35 e36 e37 e38 e39 e40 e41 e42 e43 e44 e45)=Lp.done j
theorem jn86al_2 (e1:Ud) (w1:HelloWord) (e2:Int) (e3:Int) (e4:List HelloKey) (e5:Int) (e6:List Ue) (e7:Int) (e8:Int) (e9:Int) (e10:Bool) (e11:Int) (e12:Int) (e13:Int) (e14:Int) (e15:Int) (e16:Int) (e17:Int) (e18:List Ue) (e19:Bool) (e20:Int) (e21:Bool) (e22:List Uf) (e23:Int) (e24:Int) (e25:Int) (e26:List HelloKey) (e27:Int) (e28:List Ue) (e29:Int) (e30:Int) (e31:Int) (e32:Bool) (e33:Int) (e34:Int) (e35:Int) (e36:Int) (e37:Int) (e38:Int) (e39:Int) (e40:List Ue) (e41:Bool) (e42:Int) (e43:Bool) (e44:List Uf) (e45:Int) (e46:Int) (e47:Bool) (e:(F86al_j2 e1 w1 e2 e3 e4 e5 e6 e7 e8 e9 e10 e11 e12 e13 e14 e15 e16 e17 e18 e19 e20 e21 e22 e23 e24 e25 e26 e27 e28 e29 e30 e31 e32 e33 e34 e35 e36 e37 e38 e39 e40 e41 e42 e43 e44 e45)=Lp.done (e46,e47)):∃ j:Int×Bool,((.int .i64 e24:Value)=.int .i64 e24)/\((.int .i64 e25:Value)=.int .i64 e25)/\((.int .i64 e27:Value)=.int .i64 e27)/\((.int .i64 e29:Value)=.int .i64 e29)/\((.int .i64 e30:Value)=.int .i64 e30)/\((.int .i64 e31:Value)=.int .i64 e31)/\((.bool e32:Value)=.bool e32)/\((.int .i64 e33:Value)=.int .i64 e33)/\((.int .i64 e34:Value)=.int .i64 e34)/\((.int .i64 e35:Value)=.int .i64 e35)/\((.int .i64 e36:Value)=.int .i64 e36)/\((.int .i64 e37:Value)=.int .i64 e37)/\((.int .i64 e38:Value)=.int .i64 e38)/\((.int .i64 e39:Value)=.int .i64 e39)/\((.bool e41:Value)=.bool e41)/\((.int .i64 e46:Value)=.int .i64 j.1)/\((.bool e47:Value)=.bool j.2)/\((.int .i64 e45:Value)=.int .i64 e45)/\(Imp (.l 2 eHelloKey e26) (.l 2 eHelloKey e26))/\(Imp (.l 4 eHelloEntry e28) (.l 4 eHelloEntry e28))/\(Imp (.l 4 eHelloEntry e40) (.l 4 eHelloEntry e40))/\(Imp (.l 5 eHelloRoute e44) (.l 5 eHelloRoute e44))/\((.int .i64 0:Value)=.int .i64 0)/\((.int .i64 0:Value)=.int .i64 0)/\((.slice none 0 0:Value)=.slice none 0 0)/\((.int .i64 0:Value)=.int .i64 0)/\((.slice none 0 0:Value)=.slice none 0 0)/\((.int .i64 0:Value)=.int .i64 0)/\((.int .i64 0:Value)=.int .i64 0)/\((.int .i64 0:Value)=.int .i64 0)/\((.bool false:Value)=.bool false)/\((.int .i64 0:Value)=.int .i64 0)/\((.int .i64 0:Value)=.int .i64 0)/\((.int .i64 0:Value)=.int .i64 0)/\((.int .i64 0:Value)=.int .i64 0)/\((.int .i64 0:Value)=.int .i64 0)/\((.int .i64 0:Value)=.int .i64 0)/\((.int .i64 0:Value)=.int .i64 0)/\((.slice none 0 0:Value)=.slice none 0 0)/\((.bool false:Value)=.bool false)/\((.int .i64 0:Value)=.int .i64 0)/\((.bool false:Value)=.bool false)/\((.slice none 0 0:Value)=.slice none 0 0)/\((.int .i64 0:Value)=.int .i64 0)/\jJ86al_2 e1 w1 e2 e3 e4 e5 e6 e7 e8 e9 e10 e11 e12 e13 e14 e15 e16 e17 e18 e19 e20 e21 e22 e23 e24 e25 e26 e27 e28 e29 e30 e31 e32 e33 e34 e35 e36 e37 e38 e39 e40 e41 e42 e43 e44 e45 j:=⟨(e46,e47),rfl,rfl,rfl,rfl,rfl,rfl,rfl,rfl,rfl,rfl,rfl,rfl,rfl,rfl,rfl,rfl,rfl,rfl,Imp.refl _,Imp.refl _,Imp.refl _,Imp.refl _,rfl,rfl,rfl,rfl,rfl,rfl,rfl,rfl,rfl,rfl,rfl,rfl,rfl,rfl,rfl,rfl,rfl,rfl,rfl,rfl,rfl,rfl,e⟩
theorem fi86al (e1:Ud) (w1:HelloWord) (r:Ud) (hF:r=(F86al e1 w1)):((.int .i64 r.Name:Value)=.int .i64 (F86al e1 w1).Name)/\((.int .i64 r.Peer:Value)=.int .i64 (F86al e1 w1).Peer)/\(Imp (.l 2 eHelloKey r.Keys) (.l 2 eHelloKey (F86al e1 w1).Keys))/\((.int .i64 r.Boot:Value)=.int .i64 (F86al e1 w1).Boot)/\(Imp (.l 4 eHelloEntry r.Want) (.l 4 eHelloEntry (F86al e1 w1).Want))/\((.int .i64 r.Turn:Value)=.int .i64 (F86al e1 w1).Turn)/\((.int .i64 r.PeerBoot:Value)=.int .i64 (F86al e1 w1).PeerBoot)/\((.int .i64 r.PeerTurn:Value)=.int .i64 (F86al e1 w1).PeerTurn)/\((.bool r.Up:Value)=.bool (F86al e1 w1).Up)/\((.int .i64 r.Left:Value)=.int .i64 (F86al e1 w1).Left)/\((.int .i64 r.Num:Value)=.int .i64 (F86al e1 w1).Num)/\((.int .i64 r.Under.Kind:Value)=.int .i64 (F86al e1 w1).Under.Kind)/\((.int .i64 r.Under.Entry.Addr:Value)=.int .i64 (F86al e1 w1).Under.Entry.Addr)/\((.int .i64 r.Under.Entry.Len:Value)=.int .i64 (F86al e1 w1).Under.Entry.Len)/\((.int .i64 r.Under.Entry.Cost:Value)=.int .i64 (F86al e1 w1).Under.Entry.Cost)/\((.int .i64 r.Under.Entry.Label:Value)=.int .i64 (F86al e1 w1).Under.Entry.Label)/\(Imp (.l 4 eHelloEntry r.Told) (.l 4 eHelloEntry (F86al e1 w1).Told))/\((.bool r.All:Value)=.bool (F86al e1 w1).All)/\((.int .i64 r.Got:Value)=.int .i64 (F86al e1 w1).Got)/\((.bool r.Full:Value)=.bool (F86al e1 w1).Full)/\(Imp (.l 5 eHelloRoute r.Heard) (.l 5 eHelloRoute (F86al e1 w1).Heard))/\((.int .i64 r.Keep:Value)=.int .i64 (F86al e1 w1).Keep)/\True:=by cases hF; exact ⟨rfl,rfl,Imp.refl _,rfl,Imp.refl _,rfl,rfl,rfl,rfl,rfl,rfl,rfl,rfl,rfl,rfl,rfl,Imp.refl _,rfl,rfl,rfl,Imp.refl _,rfl,trivial⟩
def S86al (e1:Ud) (w1:HelloWord):Spec:=⟨[.ot (eHelloEnd e1),.r (.g (eHelloWord w1))],.ag [.v (vI (F86al e1 w1).Name),.v (vI (F86al e1 w1).Peer),.ow (.l 2 eHelloKey (F86al e1 w1).Keys),.v (vI (F86al e1 w1).Boot),.ow (.l 4 eHelloEntry (F86al e1 w1).Want),.v (vI (F86al e1 w1).Turn),.v (vI (F86al e1 w1).PeerBoot),.v (vI (F86al e1 w1).PeerTurn),.v (.bool (F86al e1 w1).Up),.v (vI (F86al e1 w1).Left),.v (vI (F86al e1 w1).Num),.v (vI (F86al e1 w1).Under.Kind),.v (vI (F86al e1 w1).Under.Entry.Addr),.v (vI (F86al e1 w1).Under.Entry.Len),.v (vI (F86al e1 w1).Under.Entry.Cost),.v (vI (F86al e1 w1).Under.Entry.Label),.ow (.l 4 eHelloEntry (F86al e1 w1).Told),.v (.bool (F86al e1 w1).All),.v (vI (F86al e1 w1).Got),.v (.bool (F86al e1 w1).Full),.ow (.l 5 eHelloRoute (F86al e1 w1).Heard),.v (vI (F86al e1 w1).Keep)],EndFit e1/\lisAl e1 w1=true⟩
theorem ok86al (e1:Ud) (w1:HelloWord):(S86al e1 w1).ok Try.prog 86 :=
 fnG_ok mixed (fn:=Try.f86) (ct:=.seq .no (.cut (ι:=Int×Int×List HelloKey×Int×List Ue×Int×Int×Int×Bool×Int×Int×Int×Int×Int×Int×Int×List Ue×Bool×Int×Bool×List Uf×Int) (fun j=>(fun (e2:Int) (e3:Int) (e4:List HelloKey) (e5:Int) (e6:List Ue) (e7:Int) (e8:Int) (e9:Int) (e10:Bool) (e11:Int) (e12:Int) (e13:Int) (e14:Int) (e15:Int) (e16:Int) (e17:Int) (e18:List Ue) (e19:Bool) (e20:Int) (e21:Bool) (e22:List Uf) (e23:Int)=>(⟨[(2,some (.p 0 0)),(3,some (.p 5 0)),(4,some (.p 6 0))],[(0,some (.box 54 [.v (vI e2),.v (vI e3),.h 1 0,.v (vI e5),.h 2 0,.v (vI e7),.v (vI e8),.v (vI e9),.v (.bool e10),.v (vI e11),.v (vI e12),.v (vI e13),.v (vI e14),.v (vI e15),.v (vI e16),.v (vI e17),.h 3 0,.v (.bool e19),.v (vI e20),.v (.bool e21),.h 4 0,.v (vI e23)])),(1,some (.own 1 (.l 2 eHelloKey e4))),(2,some (.own 2 (.l 4 eHelloEntry e6))),(3,some (.own 3 (.l 4 eHelloEntry e18))),(4,some (.own 4 (.l 5 eHelloRoute e22))),(5,some (.box 32 [.v (vI w1.From),.v (vI w1.To),.v (vI w1.Key),.v (vI w1.Boot),.v (vI w1.Yours),.v (vI w1.Turn),.v (vI w1.Num),.v (vI w1.Heard),.v (vI w1.Change.Kind),.v (vI w1.Change.Entry.Addr),.v (vI w1.Change.Entry.Len),.v (vI w1.Change.Entry.Cost),.v (vI w1.Change.Entry.Label),.v (vI w1.Sum)])),(6,some (.box 54 [.v (vI 0),.v (vI 0),.v (.slice none 0 0),.v (vI 0),.v (.slice none 0 0),.v (vI 0),.v (vI 0),.v (vI 0),.v (.bool false),.v (vI 0),.v (vI 0),.v (vI 0),.v (vI 0),.v (vI 0),.v (vI 0),.v (vI 0),.v (.slice none 0 0),.v (.bool false),.v (vI 0),.v (.bool false),.v (.slice none 0 0),.v (vI 0)]))],7⟩:St)) j.1 j.2.1 j.2.2.1 j.2.2.2.1 j.2.2.2.2.1 j.2.2.2.2.2.1 j.2.2.2.2.2.2.1 j.2.2.2.2.2.2.2.1 j.2.2.2.2.2.2.2.2.1 j.2.2.2.2.2.2.2.2.2.1 j.2.2.2.2.2.2.2.2.2.2.1 j.2.2.2.2.2.2.2.2.2.2.2.1 j.2.2.2.2.2.2.2.2.2.2.2.2.1 j.2.2.2.2.2.2.2.2.2.2.2.2.2.1 j.2.2.2.2.2.2.2.2.2.2.2.2.2.2.1 j.2.2.2.2.2.2.2.2.2.2.2.2.2.2.2.1 j.2.2.2.2.2.2.2.2.2.2.2.2.2.2.2.2.1 j.2.2.2.2.2.2.2.2.2.2.2.2.2.2.2.2.2.1 j.2.2.2.2.2.2.2.2.2.2.2.2.2.2.2.2.2.2.1 j.2.2.2.2.2.2.2.2.2.2.2.2.2.2.2.2.2.2.2.1 j.2.2.2.2.2.2.2.2.2.2.2.2.2.2.2.2.2.2.2.2.1 j.2.2.2.2.2.2.2.2.2.2.2.2.2.2.2.2.2.2.2.2.2) (jJ86al_0 e1 w1) (.seq .no (.cond (.seq (.reg [(1,kh89 e1)]) .no) .no)) (fun j=>(fun (e2:Int) (e3:Int) (e4:List HelloKey) (e5:Int) (e6:List Ue) (e7:Int) (e8:Int) (e9:Int) (e10:Bool) (e11:Int) (e12:Int) (e13:Int) (e14:Int) (e15:Int) (e16:Int) (e17:Int) (e18:List Ue) (e19:Bool) (e20:Int) (e21:Bool) (e22:List Uf) (e23:Int)=>(.seq .no (.seq .no (.seq .no (.seq (.seq .no (.cond (.seq .no .no) .no)) (.cut (ι:=Int×Int×List HelloKey×Int×List Ue×Int×Int×Int×Bool×Int×Int×Int×Int×Int×Int×Int×List Ue×Bool×Int×Bool×List Uf×Int) (fun j=>(fun (e24:Int) (e25:Int) (e26:List HelloKey) (e27:Int) (e28:List Ue) (e29:Int) (e30:Int) (e31:Int) (e32:Bool) (e33:Int) (e34:Int) (e35:Int) (e36:Int) (e37:Int) (e38:Int) (e39:Int) (e40:List Ue) (e41:Bool) (e42:Int) (e43:Bool) (e44:List Uf) (e45:Int)=>(⟨[(2,some (.p 0 0)),(3,some (.p 5 0)),(4,some (.p 6 0))],[(0,some (.box 54 [.v (vI e24),.v (vI e25),.h 1 0,.v (vI e27),.h 2 0,.v (vI e29),.v (vI e30),.v (vI e31),.v (.bool e32),.v (vI e33),.v (vI e34),.v (vI e35),.v (vI e36),.v (vI e37),.v (vI e38),.v (vI e39),.h 3 0,.v (.bool e41),.v (vI e42),.v (.bool e43),.h 4 0,.v (vI e45)])),(1,some (.own 1 (.l 2 eHelloKey e26))),(2,some (.own 2 (.l 4 eHelloEntry e28))),(3,some (.own 3 (.l 4 eHelloEntry e40))),(4,some (.own 4 (.l 5 eHelloRoute e44))),(5,some (.box 32 [.v (vI w1.From),.v (vI w1.To),.v (vI w1.Key),.v (vI w1.Boot),.v (vI w1.Yours),.v (vI w1.Turn),.v (vI w1.Num),.v (vI w1.Heard),.v (vI w1.Change.Kind),.v (vI w1.Change.Entry.Addr),.v (vI w1.Change.Entry.Len),.v (vI w1.Change.Entry.Cost),.v (vI w1.Change.Entry.Label),.v (vI w1.Sum)])),(6,some (.box 54 [.v (vI 0),.v (vI 0),.v (.slice none 0 0),.v (vI 0),.v (.slice none 0 0),.v (vI 0),.v (vI 0),.v (vI 0),.v (.bool false),.v (vI 0),.v (vI 0),.v (vI 0),.v (vI 0),.v (vI 0),.v (vI 0),.v (vI 0),.v (.slice none 0 0),.v (.bool false),.v (vI 0),.v (.bool false),.v (.slice none 0 0),.v (vI 0)]))],7⟩:St)) j.1 j.2.1 j.2.2.1 j.2.2.2.1 j.2.2.2.2.1 j.2.2.2.2.2.1 j.2.2.2.2.2.2.1 j.2.2.2.2.2.2.2.1 j.2.2.2.2.2.2.2.2.1 j.2.2.2.2.2.2.2.2.2.1 j.2.2.2.2.2.2.2.2.2.2.1 j.2.2.2.2.2.2.2.2.2.2.2.1 j.2.2.2.2.2.2.2.2.2.2.2.2.1 j.2.2.2.2.2.2.2.2.2.2.2.2.2.1 j.2.2.2.2.2.2.2.2.2.2.2.2.2.2.1 j.2.2.2.2.2.2.2.2.2.2.2.2.2.2.2.1 j.2.2.2.2.2.2.2.2.2.2.2.2.2.2.2.2.1 j.2.2.2.2.2.2.2.2.2.2.2.2.2.2.2.2.2.1 j.2.2.2.2.2.2.2.2.2.2.2.2.2.2.2.2.2.2.1 j.2.2.2.2.2.2.2.2.2.2.2.2.2.2.2.2.2.2.2.1 j.2.2.2.2.2.2.2.2.2.2.2.2.2.2.2.2.2.2.2.2.1 j.2.2.2.2.2.2.2.2.2.2.2.2.2.2.2.2.2.2.2.2.2) (jJ86al_1 e1 w1 e2 e3 e4 e5 e6 e7 e8 e9 e10 e11 e12 e13 e14 e15 e16 e17 e18 e19 e20 e21 e22 e23) (.seq .no (.cond (.reg [(1,.call 91 (S91 (⟨e2,e3,e4,e5,e6,e7,e8,w1.Turn,(w1.Yours==e5),4,e12,(⟨e13,(⟨e14,e15,e16,e17⟩:Ue)⟩:HelloChange),e18,e19,e20,e21,e22,e23⟩:Ud)) (ok91 (⟨e2,e3,e4,e5,e6,e7,e8,w1.Turn,(w1.Yours==e5),4,e12,(⟨e13,(⟨e14,e15,e16,e17⟩:Ue)⟩:HelloChange),e18,e19,e20,e21,e22,e23⟩:Ud)) none)]) .no)) (fun j=>(fun (e24:Int) (e25:Int) (e26:List HelloKey) (e27:Int) (e28:List Ue) (e29:Int) (e30:Int) (e31:Int) (e32:Bool) (e33:Int) (e34:Int) (e35:Int) (e36:Int) (e37:Int) (e38:Int) (e39:Int) (e40:List Ue) (e41:Bool) (e42:Int) (e43:Bool) (e44:List Uf) (e45:Int)=>(.cut (ι:=Int×Bool) (fun j=>(fun (e46:Int) (e47:Bool)=>(⟨[(2,some (.p 0 0)),(4,some (.p 5 0))],[(0,some (.box 54 [.v (vI e24),.v (vI e25),.h 1 0,.v (vI e27),.h 2 0,.v (vI e29),.v (vI e30),.v (vI e31),.v (.bool e32),.v (vI e33),.v (vI e34),.v (vI e35),.v (vI e36),.v (vI e37),.v (vI e38),.v (vI e39),.h 3 0,.v (.bool e41),.v (vI e46),.v (.bool e47),.h 4 0,.v (vI e45)])),(1,some (.own 1 (.l 2 eHelloKey e26))),(2,some (.own 2 (.l 4 eHelloEntry e28))),(3,some (.own 3 (.l 4 eHelloEntry e40))),(4,some (.own 4 (.l 5 eHelloRoute e44))),(5,some (.box 54 [.v (vI 0),.v (vI 0),.v (.slice none 0 0),.v (vI 0),.v (.slice none 0 0),.v (vI 0),.v (vI 0),.v (vI 0),.v (.bool false),.v (vI 0),.v (vI 0),.v (vI 0),.v (vI 0),.v (vI 0),.v (vI 0),.v (vI 0),.v (.slice none 0 0),.v (.bool false),.v (vI 0),.v (.bool false),.v (.slice none 0 0),.v (vI 0)]))],6⟩:St)) j.1 j.2) (jJ86al_2 e1 w1 e2 e3 e4 e5 e6 e7 e8 e9 e10 e11 e12 e13 e14 e15 e16 e17 e18 e19 e20 e21 e22 e23 e24 e25 e26 e27 e28 e29 e30 e31 e32 e33 e34 e35 e36 e37 e38 e39 e40 e41 e42 e43 e44 e45) (.seq .no (.cond (.seq (.reg [(4,.ci 92 (S92al e44 w1.Change) (ok92al e44 w1.Change))]) (.seq .no (.cond (.seq .no (.seq .no .no)) .no))) .no)) (fun j=>(fun (e46:Int) (e47:Bool)=>(.seq (.reg [(1,.call 93 (S93 (⟨e24,e25,e26,e27,e28,e29,e30,e31,e32,e33,e34,(⟨e35,(⟨e36,e37,e38,e39⟩:Ue)⟩:HelloChange),e40,e41,e46,e47,e44,e45⟩:Ud)) (ok93 (⟨e24,e25,e26,e27,e28,e29,e30,e31,e32,e33,e34,(⟨e35,(⟨e36,e37,e38,e39⟩:Ue)⟩:HelloChange),e40,e41,e46,e47,e44,e45⟩:Ud)) none)]) .no)) j.1 j.2))) j.1 j.2.1 j.2.2.1 j.2.2.2.1 j.2.2.2.2.1 j.2.2.2.2.2.1 j.2.2.2.2.2.2.1 j.2.2.2.2.2.2.2.1 j.2.2.2.2.2.2.2.2.1 j.2.2.2.2.2.2.2.2.2.1 j.2.2.2.2.2.2.2.2.2.2.1 j.2.2.2.2.2.2.2.2.2.2.2.1 j.2.2.2.2.2.2.2.2.2.2.2.2.1 j.2.2.2.2.2.2.2.2.2.2.2.2.2.1 j.2.2.2.2.2.2.2.2.2.2.2.2.2.2.1 j.2.2.2.2.2.2.2.2.2.2.2.2.2.2.2.1 j.2.2.2.2.2.2.2.2.2.2.2.2.2.2.2.2.1 j.2.2.2.2.2.2.2.2.2.2.2.2.2.2.2.2.2.1 j.2.2.2.2.2.2.2.2.2.2.2.2.2.2.2.2.2.2.1 j.2.2.2.2.2.2.2.2.2.2.2.2.2.2.2.2.2.2.2.1 j.2.2.2.2.2.2.2.2.2.2.2.2.2.2.2.2.2.2.2.2.1 j.2.2.2.2.2.2.2.2.2.2.2.2.2.2.2.2.2.2.2.2.2))))))) j.1 j.2.1 j.2.2.1 j.2.2.2.1 j.2.2.2.2.1 j.2.2.2.2.2.1 j.2.2.2.2.2.2.1 j.2.2.2.2.2.2.2.1 j.2.2.2.2.2.2.2.2.1 j.2.2.2.2.2.2.2.2.2.1 j.2.2.2.2.2.2.2.2.2.2.1 j.2.2.2.2.2.2.2.2.2.2.2.1 j.2.2.2.2.2.2.2.2.2.2.2.2.1 j.2.2.2.2.2.2.2.2.2.2.2.2.2.1 j.2.2.2.2.2.2.2.2.2.2.2.2.2.2.1 j.2.2.2.2.2.2.2.2.2.2.2.2.2.2.2.1 j.2.2.2.2.2.2.2.2.2.2.2.2.2.2.2.2.1 j.2.2.2.2.2.2.2.2.2.2.2.2.2.2.2.2.2.1 j.2.2.2.2.2.2.2.2.2.2.2.2.2.2.2.2.2.2.1 j.2.2.2.2.2.2.2.2.2.2.2.2.2.2.2.2.2.2.2.1 j.2.2.2.2.2.2.2.2.2.2.2.2.2.2.2.2.2.2.2.2.1 j.2.2.2.2.2.2.2.2.2.2.2.2.2.2.2.2.2.2.2.2.2))) Try.func86 (fun (hp:EndFit e1/\lisAl e1 w1=true)=>have hpre0:=hp.1; have hpre1:=hp.2; ai (ifd (w1.Boot>e1.PeerBoot) (fun h1 _=>kc89 e1 (jn86al_0 e1 w1 (F89 e1).Name (F89 e1).Peer (F89 e1).Keys (F89 e1).Boot (F89 e1).Want (F89 e1).Turn w1.Boot (F89 e1).PeerTurn (F89 e1).Up (F89 e1).Left (F89 e1).Num (F89 e1).Under.Kind (F89 e1).Under.Entry.Addr (F89 e1).Under.Entry.Len (F89 e1).Under.Entry.Cost (F89 e1).Under.Entry.Label (F89 e1).Told (F89 e1).All (F89 e1).Got (F89 e1).Full (F89 e1).Heard (F89 e1).Keep (Q5 (condT h1 rfl)) uu20)) (fun h1 _=>jn86al_0 e1 w1 e1.Name e1.Peer e1.Keys e1.Boot e1.Want e1.Turn e1.PeerBoot e1.PeerTurn e1.Up e1.Left e1.Num e1.Under.Kind e1.Under.Entry.Addr e1.Under.Entry.Len e1.Under.Entry.Cost e1.Under.Entry.Label e1.Told e1.All e1.Got e1.Full e1.Heard e1.Keep (Q5 (condF h1 rfl)) uu20)) (fun (j:Int×Int×List HelloKey×Int×List Ue×Int×Int×Int×Bool×Int×Int×Int×Int×Int×Int×Int×List Ue×Bool×Int×Bool×List Uf×Int) (hj:jJ86al_0 e1 w1 j)=>(fun (e2:Int) (e3:Int) (e4:List HelloKey) (e5:Int) (e6:List Ue) (e7:Int) (e8:Int) (e9:Int) (e10:Bool) (e11:Int) (e12:Int) (e13:Int) (e14:Int) (e15:Int) (e16:Int) (e17:Int) (e18:List Ue) (e19:Bool) (e20:Int) (e21:Bool) (e22:List Uf) (e23:Int) (hJ0_2:(F86al_j0 e1 w1)=Lp.done (e2,e3,e4,e5,e6,e7,e8,e9,e10,e11,e12,e13,e14,e15,e16,e17,e18,e19,e20,e21,e22,e23)) (hw:jI86al_0 e1 w1 e2 e3 e4 e5 e6 e7 e8 e9 e10 e11 e12 e13 e14 e15 e16 e17 e18 e19 e20 e21 e22 e23)=>have _:=hw.1; ifb (!(w1.Yours==e5)) (fun h3=>have _:=beqF (notET h3); fi86al e1 w1 (⟨e2,e3,e4,e5,e6,e7,e8,w1.Turn,(w1.Yours==e5),4,e12,(⟨e13,(⟨e14,e15,e16,e17⟩:Ue)⟩:HelloChange),e18,e19,e20,e21,e22,e23⟩:Ud) (finD hJ0_2 (condT h3 rfl))) (fun h3=>have _:=eq_of_beq (notEF h3); ai (ifb (bif decide (e13>0) then (w1.Heard==e12) else false) (fun h4=>have _:=Qc (andT1 h4); have _:=eq_of_beq (andT2 h4); ai (by exact lj_small (by assumption) (by assumption):smallE (⟨e2,e3,e4,e5,e6,e7,e8,w1.Turn,(w1.Yours==e5),4,e12,(⟨e13,(⟨e14,e15,e16,e17⟩:Ue)⟩:HelloChange),e18,e19,e20,e21,e22,e23⟩:Ud)) (ai (Imps.refl (eHelloEnd (⟨e2,e3,e4,e5,e6,e7,e8,w1.Turn,(w1.Yours==e5),4,e12,(⟨e13,(⟨e14,e15,e16,e17⟩:Ue)⟩:HelloChange),e18,e19,e20,e21,e22,e23⟩:Ud))) (have gv5:(F91 ⟨e2,e3,e4,e5,e6,e7,e8,w1.Turn,(w1.Yours==e5),4,e12,(⟨e13,(⟨e14,e15,e16,e17⟩:Ue)⟩:HelloChange),e18,e19,e20,e21,e22,e23⟩).Heard=e22/\(F91 ⟨e2,e3,e4,e5,e6,e7,e8,w1.Turn,(w1.Yours==e5),4,e12,(⟨e13,(⟨e14,e15,e16,e17⟩:Ue)⟩:HelloChange),e18,e19,e20,e21,e22,e23⟩).Keys=e4/\(F91 ⟨e2,e3,e4,e5,e6,e7,e8,w1.Turn,(w1.Yours==e5),4,e12,(⟨e13,(⟨e14,e15,e16,e17⟩:Ue)⟩:HelloChange),e18,e19,e20,e21,e22,e23⟩).Want=e6/\(F91 ⟨e2,e3,e4,e5,e6,e7,e8,w1.Turn,(w1.Yours==e5),4,e12,(⟨e13,(⟨e14,e15,e16,e17⟩:Ue)⟩:HelloChange),e18,e19,e20,e21,e22,e23⟩).Told.length<=e18.length+1:=answered_len (⟨e2,e3,e4,e5,e6,e7,e8,w1.Turn,(w1.Yours==e5),4,e12,(⟨e13,(⟨e14,e15,e16,e17⟩:Ue)⟩:HelloChange),e18,e19,e20,e21,e22,e23⟩:Ud); jn86al_1 e1 w1 e2 e3 e4 e5 e6 e7 e8 e9 e10 e11 e12 e13 e14 e15 e16 e17 e18 e19 e20 e21 e22 e23 (F91 ⟨e2,e3,e4,e5,e6,e7,e8,w1.Turn,(w1.Yours==e5),4,e12,(⟨e13,(⟨e14,e15,e16,e17⟩:Ue)⟩:HelloChange),e18,e19,e20,e21,e22,e23⟩).Name (F91 ⟨e2,e3,e4,e5,e6,e7,e8,w1.Turn,(w1.Yours==e5),4,e12,(⟨e13,(⟨e14,e15,e16,e17⟩:Ue)⟩:HelloChange),e18,e19,e20,e21,e22,e23⟩).Peer (F91 ⟨e2,e3,e4,e5,e6,e7,e8,w1.Turn,(w1.Yours==e5),4,e12,(⟨e13,(⟨e14,e15,e16,e17⟩:Ue)⟩:HelloChange),e18,e19,e20,e21,e22,e23⟩).Keys (F91 ⟨e2,e3,e4,e5,e6,e7,e8,w1.Turn,(w1.Yours==e5),4,e12,(⟨e13,(⟨e14,e15,e16,e17⟩:Ue)⟩:HelloChange),e18,e19,e20,e21,e22,e23⟩).Boot (F91 ⟨e2,e3,e4,e5,e6,e7,e8,w1.Turn,(w1.Yours==e5),4,e12,(⟨e13,(⟨e14,e15,e16,e17⟩:Ue)⟩:HelloChange),e18,e19,e20,e21,e22,e23⟩).Want (F91 ⟨e2,e3,e4,e5,e6,e7,e8,w1.Turn,(w1.Yours==e5),4,e12,(⟨e13,(⟨e14,e15,e16,e17⟩:Ue)⟩:HelloChange),e18,e19,e20,e21,e22,e23⟩).Turn (F91 ⟨e2,e3,e4,e5,e6,e7,e8,w1.Turn,(w1.Yours==e5),4,e12,(⟨e13,(⟨e14,e15,e16,e17⟩:Ue)⟩:HelloChange),e18,e19,e20,e21,e22,e23⟩).PeerBoot (F91 ⟨e2,e3,e4,e5,e6,e7,e8,w1.Turn,(w1.Yours==e5),4,e12,(⟨e13,(⟨e14,e15,e16,e17⟩:Ue)⟩:HelloChange),e18,e19,e20,e21,e22,e23⟩).PeerTurn (F91 ⟨e2,e3,e4,e5,e6,e7,e8,w1.Turn,(w1.Yours==e5),4,e12,(⟨e13,(⟨e14,e15,e16,e17⟩:Ue)⟩:HelloChange),e18,e19,e20,e21,e22,e23⟩).Up (F91 ⟨e2,e3,e4,e5,e6,e7,e8,w1.Turn,(w1.Yours==e5),4,e12,(⟨e13,(⟨e14,e15,e16,e17⟩:Ue)⟩:HelloChange),e18,e19,e20,e21,e22,e23⟩).Left (F91 ⟨e2,e3,e4,e5,e6,e7,e8,w1.Turn,(w1.Yours==e5),4,e12,(⟨e13,(⟨e14,e15,e16,e17⟩:Ue)⟩:HelloChange),e18,e19,e20,e21,e22,e23⟩).Num (F91 ⟨e2,e3,e4,e5,e6,e7,e8,w1.Turn,(w1.Yours==e5),4,e12,(⟨e13,(⟨e14,e15,e16,e17⟩:Ue)⟩:HelloChange),e18,e19,e20,e21,e22,e23⟩).Under.Kind (F91 ⟨e2,e3,e4,e5,e6,e7,e8,w1.Turn,(w1.Yours==e5),4,e12,(⟨e13,(⟨e14,e15,e16,e17⟩:Ue)⟩:HelloChange),e18,e19,e20,e21,e22,e23⟩).Under.Entry.Addr (F91 ⟨e2,e3,e4,e5,e6,e7,e8,w1.Turn,(w1.Yours==e5),4,e12,(⟨e13,(⟨e14,e15,e16,e17⟩:Ue)⟩:HelloChange),e18,e19,e20,e21,e22,e23⟩).Under.Entry.Len (F91 ⟨e2,e3,e4,e5,e6,e7,e8,w1.Turn,(w1.Yours==e5),4,e12,(⟨e13,(⟨e14,e15,e16,e17⟩:Ue)⟩:HelloChange),e18,e19,e20,e21,e22,e23⟩).Under.Entry.Cost (F91 ⟨e2,e3,e4,e5,e6,e7,e8,w1.Turn,(w1.Yours==e5),4,e12,(⟨e13,(⟨e14,e15,e16,e17⟩:Ue)⟩:HelloChange),e18,e19,e20,e21,e22,e23⟩).Under.Entry.Label (F91 ⟨e2,e3,e4,e5,e6,e7,e8,w1.Turn,(w1.Yours==e5),4,e12,(⟨e13,(⟨e14,e15,e16,e17⟩:Ue)⟩:HelloChange),e18,e19,e20,e21,e22,e23⟩).Told (F91 ⟨e2,e3,e4,e5,e6,e7,e8,w1.Turn,(w1.Yours==e5),4,e12,(⟨e13,(⟨e14,e15,e16,e17⟩:Ue)⟩:HelloChange),e18,e19,e20,e21,e22,e23⟩).All (F91 ⟨e2,e3,e4,e5,e6,e7,e8,w1.Turn,(w1.Yours==e5),4,e12,(⟨e13,(⟨e14,e15,e16,e17⟩:Ue)⟩:HelloChange),e18,e19,e20,e21,e22,e23⟩).Got (F91 ⟨e2,e3,e4,e5,e6,e7,e8,w1.Turn,(w1.Yours==e5),4,e12,(⟨e13,(⟨e14,e15,e16,e17⟩:Ue)⟩:HelloChange),e18,e19,e20,e21,e22,e23⟩).Full (F91 ⟨e2,e3,e4,e5,e6,e7,e8,w1.Turn,(w1.Yours==e5),4,e12,(⟨e13,(⟨e14,e15,e16,e17⟩:Ue)⟩:HelloChange),e18,e19,e20,e21,e22,e23⟩).Heard (F91 ⟨e2,e3,e4,e5,e6,e7,e8,w1.Turn,(w1.Yours==e5),4,e12,(⟨e13,(⟨e14,e15,e16,e17⟩:Ue)⟩:HelloChange),e18,e19,e20,e21,e22,e23⟩).Keep (Q5 (condT h4 rfl)) uu20))) (fun h4=>jn86al_1 e1 w1 e2 e3 e4 e5 e6 e7 e8 e9 e10 e11 e12 e13 e14 e15 e16 e17 e18 e19 e20 e21 e22 e23 e2 e3 e4 e5 e6 e7 e8 w1.Turn (w1.Yours==e5) 4 e12 e13 e14 e15 e16 e17 e18 e19 e20 e21 e22 e23 (Q5 (condF h4 rfl)) uu20)) (fun (j:Int×Int×List HelloKey×Int×List Ue×Int×Int×Int×Bool×Int×Int×Int×Int×Int×Int×Int×List Ue×Bool×Int×Bool×List Uf×Int) (hj:jJ86al_1 e1 w1 e2 e3 e4 e5 e6 e7 e8 e9 e10 e11 e12 e13 e14 e15 e16 e17 e18 e19 e20 e21 e22 e23 j)=>(fun (e24:Int) (e25:Int) (e26:List HelloKey) (e27:Int) (e28:List Ue) (e29:Int) (e30:Int) (e31:Int) (e32:Bool) (e33:Int) (e34:Int) (e35:Int) (e36:Int) (e37:Int) (e38:Int) (e39:Int) (e40:List Ue) (e41:Bool) (e42:Int) (e43:Bool) (e44:List Uf) (e45:Int) (hJ1_6:(F86al_j1 e1 w1 e2 e3 e4 e5 e6 e7 e8 e9 e10 e11 e12 e13 e14 e15 e16 e17 e18 e19 e20 e21 e22 e23)=Lp.done (e24,e25,e26,e27,e28,e29,e30,e31,e32,e33,e34,e35,e36,e37,e38,e39,e40,e41,e42,e43,e44,e45)) (hw:jI86al_1 e1 w1 e2 e3 e4 e5 e6 e7 e8 e9 e10 e11 e12 e13 e14 e15 e16 e17 e18 e19 e20 e21 e22 e23 e24 e25 e26 e27 e28 e29 e30 e31 e32 e33 e34 e35 e36 e37 e38 e39 e40 e41 e42 e43 e44 e45)=>have _:=hw.1; ai (ifb (bif decide (w1.Change.Kind>0) then (w1.Num==(IntKind.i64.wrap (e42+1))) else false) (fun h7=>have _:=Qc (andT1 h7); have _:=eq_of_beq (andT2 h7); ai (uu27:toldAl e44 w1.Change=true) (ai (Imp.refl (.l 5 eHelloRoute e44)) (ai (Imps.refl (eHelloChange w1.Change)) (ifb (w1.Change.Kind==2) (fun h8=>jn86al_2 e1 w1 e2 e3 e4 e5 e6 e7 e8 e9 e10 e11 e12 e13 e14 e15 e16 e17 e18 e19 e20 e21 e22 e23 e24 e25 e26 e27 e28 e29 e30 e31 e32 e33 e34 e35 e36 e37 e38 e39 e40 e41 e42 e43 e44 e45 w1.Num (bif e43 then true else (w1.Change.Kind==3)) (Q5 (condT h7 (condT h8 rfl))) ) (fun h8=>jn86al_2 e1 w1 e2 e3 e4 e5 e6 e7 e8 e9 e10 e11 e12 e13 e14 e15 e16 e17 e18 e19 e20 e21 e22 e23 e24 e25 e26 e27 e28 e29 e30 e31 e32 e33 e34 e35 e36 e37 e38 e39 e40 e41 e42 e43 e44 e45 e42 e43 (Q5 (condT h7 (condF h8 rfl))) ))))) (fun h7=>jn86al_2 e1 w1 e2 e3 e4 e5 e6 e7 e8 e9 e10 e11 e12 e13 e14 e15 e16 e17 e18 e19 e20 e21 e22 e23 e24 e25 e26 e27 e28 e29 e30 e31 e32 e33 e34 e35 e36 e37 e38 e39 e40 e41 e42 e43 e44 e45 e42 e43 (Q5 (condF h7 rfl)) )) (fun (j:Int×Bool) (hj:jJ86al_2 e1 w1 e2 e3 e4 e5 e6 e7 e8 e9 e10 e11 e12 e13 e14 e15 e16 e17 e18 e19 e20 e21 e22 e23 e24 e25 e26 e27 e28 e29 e30 e31 e32 e33 e34 e35 e36 e37 e38 e39 e40 e41 e42 e43 e44 e45 j)=>(fun (e46:Int) (e47:Bool) (hJ2_9:(F86al_j2 e1 w1 e2 e3 e4 e5 e6 e7 e8 e9 e10 e11 e12 e13 e14 e15 e16 e17 e18 e19 e20 e21 e22 e23 e24 e25 e26 e27 e28 e29 e30 e31 e32 e33 e34 e35 e36 e37 e38 e39 e40 e41 e42 e43 e44 e45)=Lp.done (e46,e47))=>ai trivial (ai (Imps.refl (eHelloEnd (⟨e24,e25,e26,e27,e28,e29,e30,e31,e32,e33,e34,(⟨e35,(⟨e36,e37,e38,e39⟩:Ue)⟩:HelloChange),e40,e41,e46,e47,e44,e45⟩:Ud))) (fi86al e1 w1 (F93 ⟨e24,e25,e26,e27,e28,e29,e30,e31,e32,e33,e34,(⟨e35,(⟨e36,e37,e38,e39⟩:Ue)⟩:HelloChange),e40,e41,e46,e47,e44,e45⟩) (finD hJ0_2 (condF h3 (finD hJ1_6 (finD hJ2_9 rfl))))))) j.1 j.2 hj)) j.1 j.2.1 j.2.2.1 j.2.2.2.1 j.2.2.2.2.1 j.2.2.2.2.2.1 j.2.2.2.2.2.2.1 j.2.2.2.2.2.2.2.1 j.2.2.2.2.2.2.2.2.1 j.2.2.2.2.2.2.2.2.2.1 j.2.2.2.2.2.2.2.2.2.2.1 j.2.2.2.2.2.2.2.2.2.2.2.1 j.2.2.2.2.2.2.2.2.2.2.2.2.1 j.2.2.2.2.2.2.2.2.2.2.2.2.2.1 j.2.2.2.2.2.2.2.2.2.2.2.2.2.2.1 j.2.2.2.2.2.2.2.2.2.2.2.2.2.2.2.1 j.2.2.2.2.2.2.2.2.2.2.2.2.2.2.2.2.1 j.2.2.2.2.2.2.2.2.2.2.2.2.2.2.2.2.2.1 j.2.2.2.2.2.2.2.2.2.2.2.2.2.2.2.2.2.2.1 j.2.2.2.2.2.2.2.2.2.2.2.2.2.2.2.2.2.2.2.1 j.2.2.2.2.2.2.2.2.2.2.2.2.2.2.2.2.2.2.2.2.1 j.2.2.2.2.2.2.2.2.2.2.2.2.2.2.2.2.2.2.2.2.2 hj.1 hj.2))) j.1 j.2.1 j.2.2.1 j.2.2.2.1 j.2.2.2.2.1 j.2.2.2.2.2.1 j.2.2.2.2.2.2.1 j.2.2.2.2.2.2.2.1 j.2.2.2.2.2.2.2.2.1 j.2.2.2.2.2.2.2.2.2.1 j.2.2.2.2.2.2.2.2.2.2.1 j.2.2.2.2.2.2.2.2.2.2.2.1 j.2.2.2.2.2.2.2.2.2.2.2.2.1 j.2.2.2.2.2.2.2.2.2.2.2.2.2.1 j.2.2.2.2.2.2.2.2.2.2.2.2.2.2.1 j.2.2.2.2.2.2.2.2.2.2.2.2.2.2.2.1 j.2.2.2.2.2.2.2.2.2.2.2.2.2.2.2.2.1 j.2.2.2.2.2.2.2.2.2.2.2.2.2.2.2.2.2.1 j.2.2.2.2.2.2.2.2.2.2.2.2.2.2.2.2.2.2.1 j.2.2.2.2.2.2.2.2.2.2.2.2.2.2.2.2.2.2.2.1 j.2.2.2.2.2.2.2.2.2.2.2.2.2.2.2.2.2.2.2.2.1 j.2.2.2.2.2.2.2.2.2.2.2.2.2.2.2.2.2.2.2.2.2 hj.1 hj.2)) uu3
theorem kc92fr (list:List Uf) (c:HelloChange) {K_:Prop} (p0_:toldAl list c=false) (p1_:list.length<=16) (k_:K_):(toldAl list c=false/\list.length<=16)/\(Imp (.l 5 eHelloRoute list) (.l 5 eHelloRoute list))/\(Imps (eHelloChange c) (eHelloChange c))/\K_:=⟨⟨p0_,p1_⟩,Imp.refl _,Imps.refl _,k_⟩
abbrev kh92fr (list:List Uf) (c:HelloChange):Hint true Try.prog:=.call 92 (S92fr list c) (ok92fr list c) none
def F86fr_j0 (e1:Ud) (w1:HelloWord):Lp (Int×Int×List HelloKey×Int×List Ue×Int×Int×Int×Bool×Int×Int×Int×Int×Int×Int×Int×List Ue×Bool×Int×Bool×List Uf×Int) Ud :=
 bif (decide (w1.Boot>e1.PeerBoot)) then (.done ((F89 e1).Name,(F89 e1).Peer,(F89 e1).Keys,(F89 e1).Boot,(F89 e1).Want,(F89 e1).Turn,w1.Boot,(F89 e1).PeerTurn,(F89 e1).Up,(F89 e1).Left,(F89 e1).Num,(F89 e1).Under.Kind,(F89 e1).Under.Entry.Addr,(F89 e1).Under.Entry.Len,(F89 e1).Under.Entry.Cost,(F89 e1).Under.Entry.Label,(F89 e1).Told,(F89 e1).All,(F89 e1).Got,(F89 e1).Full,(F89 e1).Heard,(F89 e1).Keep)) else (.done (e1.Name,e1.Peer,e1.Keys,e1.Boot,e1.Want,e1.Turn,e1.PeerBoot,e1.PeerTurn,e1.Up,e1.Left,e1.Num,e1.Under.Kind,e1.Under.Entry.Addr,e1.Under.Entry.Len,e1.Under.Entry.Cost,e1.Under.Entry.Label,e1.Told,e1.All,e1.Got,e1.Full,e1.Heard,e1.Keep))
def F86fr_j1 (e1:Ud) (w1:HelloWord) (e2:Int) (e3:Int) (e4:List HelloKey) (e5:Int) (e6:List Ue) (e7:Int) (e8:Int) (e9:Int) (e10:Bool) (e11:Int) (e12:Int) (e13:Int) (e14:Int) (e15:Int) (e16:Int) (e17:Int) (e18:List Ue) (e19:Bool) (e20:Int) (e21:Bool) (e22:List Uf) (e23:Int):Lp (Int×Int×List HelloKey×Int×List Ue×Int×Int×Int×Bool×Int×Int×Int×Int×Int×Int×Int×List Ue×Bool×Int×Bool×List Uf×Int) Ud :=
 bif (bif decide (e13>0) then (w1.Heard==e12) else false) then (.done ((F91 ⟨e2,e3,e4,e5,e6,e7,e8,w1.Turn,(w1.Yours==e5),4,e12,(⟨e13,(⟨e14,e15,e16,e17⟩:Ue)⟩:HelloChange),e18,e19,e20,e21,e22,e23⟩).Name,(F91 ⟨e2,e3,e4,e5,e6,e7,e8,w1.Turn,(w1.Yours==e5),4,e12,(⟨e13,(⟨e14,e15,e16,e17⟩:Ue)⟩:HelloChange),e18,e19,e20,e21,e22,e23⟩).Peer,(F91 ⟨e2,e3,e4,e5,e6,e7,e8,w1.Turn,(w1.Yours==e5),4,e12,(⟨e13,(⟨e14,e15,e16,e17⟩:Ue)⟩:HelloChange),e18,e19,e20,e21,e22,e23⟩).Keys,(F91 ⟨e2,e3,e4,e5,e6,e7,e8,w1.Turn,(w1.Yours==e5),4,e12,(⟨e13,(⟨e14,e15,e16,e17⟩:Ue)⟩:HelloChange),e18,e19,e20,e21,e22,e23⟩).Boot,(F91 ⟨e2,e3,e4,e5,e6,e7,e8,w1.Turn,(w1.Yours==e5),4,e12,(⟨e13,(⟨e14,e15,e16,e17⟩:Ue)⟩:HelloChange),e18,e19,e20,e21,e22,e23⟩).Want,(F91 ⟨e2,e3,e4,e5,e6,e7,e8,w1.Turn,(w1.Yours==e5),4,e12,(⟨e13,(⟨e14,e15,e16,e17⟩:Ue)⟩:HelloChange),e18,e19,e20,e21,e22,e23⟩).Turn,(F91 ⟨e2,e3,e4,e5,e6,e7,e8,w1.Turn,(w1.Yours==e5),4,e12,(⟨e13,(⟨e14,e15,e16,e17⟩:Ue)⟩:HelloChange),e18,e19,e20,e21,e22,e23⟩).PeerBoot,(F91 ⟨e2,e3,e4,e5,e6,e7,e8,w1.Turn,(w1.Yours==e5),4,e12,(⟨e13,(⟨e14,e15,e16,e17⟩:Ue)⟩:HelloChange),e18,e19,e20,e21,e22,e23⟩).PeerTurn,(F91 ⟨e2,e3,e4,e5,e6,e7,e8,w1.Turn,(w1.Yours==e5),4,e12,(⟨e13,(⟨e14,e15,e16,e17⟩:Ue)⟩:HelloChange),e18,e19,e20,e21,e22,e23⟩).Up,(F91 ⟨e2,e3,e4,e5,e6,e7,e8,w1.Turn,(w1.Yours==e5),4,e12,(⟨e13,(⟨e14,e15,e16,e17⟩:Ue)⟩:HelloChange),e18,e19,e20,e21,e22,e23⟩).Left,(F91 ⟨e2,e3,e4,e5,e6,e7,e8,w1.Turn,(w1.Yours==e5),4,e12,(⟨e13,(⟨e14,e15,e16,e17⟩:Ue)⟩:HelloChange),e18,e19,e20,e21,e22,e23⟩).Num,(F91 ⟨e2,e3,e4,e5,e6,e7,e8,w1.Turn,(w1.Yours==e5),4,e12,(⟨e13,(⟨e14,e15,e16,e17⟩:Ue)⟩:HelloChange),e18,e19,e20,e21,e22,e23⟩).Under.Kind,(F91 ⟨e2,e3,e4,e5,e6,e7,e8,w1.Turn,(w1.Yours==e5),4,e12,(⟨e13,(⟨e14,e15,e16,e17⟩:Ue)⟩:HelloChange),e18,e19,e20,e21,e22,e23⟩).Under.Entry.Addr,(F91 ⟨e2,e3,e4,e5,e6,e7,e8,w1.Turn,(w1.Yours==e5),4,e12,(⟨e13,(⟨e14,e15,e16,e17⟩:Ue)⟩:HelloChange),e18,e19,e20,e21,e22,e23⟩).Under.Entry.Len,(F91 ⟨e2,e3,e4,e5,e6,e7,e8,w1.Turn,(w1.Yours==e5),4,e12,(⟨e13,(⟨e14,e15,e16,e17⟩:Ue)⟩:HelloChange),e18,e19,e20,e21,e22,e23⟩).Under.Entry.Cost,(F91 ⟨e2,e3,e4,e5,e6,e7,e8,w1.Turn,(w1.Yours==e5),4,e12,(⟨e13,(⟨e14,e15,e16,e17⟩:Ue)⟩:HelloChange),e18,e19,e20,e21,e22,e23⟩).Under.Entry.Label,(F91 ⟨e2,e3,e4,e5,e6,e7,e8,w1.Turn,(w1.Yours==e5),4,e12,(⟨e13,(⟨e14,e15,e16,e17⟩:Ue)⟩:HelloChange),e18,e19,e20,e21,e22,e23⟩).Told,(F91 ⟨e2,e3,e4,e5,e6,e7,e8,w1.Turn,(w1.Yours==e5),4,e12,(⟨e13,(⟨e14,e15,e16,e17⟩:Ue)⟩:HelloChange),e18,e19,e20,e21,e22,e23⟩).All,(F91 ⟨e2,e3,e4,e5,e6,e7,e8,w1.Turn,(w1.Yours==e5),4,e12,(⟨e13,(⟨e14,e15,e16,e17⟩:Ue)⟩:HelloChange),e18,e19,e20,e21,e22,e23⟩).Got,(F91 ⟨e2,e3,e4,e5,e6,e7,e8,w1.Turn,(w1.Yours==e5),4,e12,(⟨e13,(⟨e14,e15,e16,e17⟩:Ue)⟩:HelloChange),e18,e19,e20,e21,e22,e23⟩).Full,(F91 ⟨e2,e3,e4,e5,e6,e7,e8,w1.Turn,(w1.Yours==e5),4,e12,(⟨e13,(⟨e14,e15,e16,e17⟩:Ue)⟩:HelloChange),e18,e19,e20,e21,e22,e23⟩).Heard,(F91 ⟨e2,e3,e4,e5,e6,e7,e8,w1.Turn,(w1.Yours==e5),4,e12,(⟨e13,(⟨e14,e15,e16,e17⟩:Ue)⟩:HelloChange),e18,e19,e20,e21,e22,e23⟩).Keep)) else (.done (e2,e3,e4,e5,e6,e7,e8,w1.Turn,(w1.Yours==e5),4,e12,e13,e14,e15,e16,e17,e18,e19,e20,e21,e22,e23))
def F86fr_j2 (e1:Ud) (w1:HelloWord) (e2:Int) (e3:Int) (e4:List HelloKey) (e5:Int) (e6:List Ue) (e7:Int) (e8:Int) (e9:Int) (e10:Bool) (e11:Int) (e12:Int) (e13:Int) (e14:Int) (e15:Int) (e16:Int) (e17:Int) (e18:List Ue) (e19:Bool) (e20:Int) (e21:Bool) (e22:List Uf) (e23:Int) (e24:Int) (e25:Int) (e26:List HelloKey) (e27:Int) (e28:List Ue) (e29:Int) (e30:Int) (e31:Int) (e32:Bool) (e33:Int) (e34:Int) (e35:Int) (e36:Int) (e37:Int) (e38:Int) (e39:Int) (e40:List Ue) (e41:Bool) (e42:Int) (e43:Bool) (e44:List Uf) (e45:Int):Lp (Int×Bool×List Uf) Ud :=
 bif (bif decide (w1.Change.Kind>0) then (w1.Num==(IntKind.i64.wrap (e42+1))) else false) then (bif (F92fr e44 w1.Change).2 then (.done (w1.Num,(bif e43 then true else (w1.Change.Kind==3)),(F92fr e44 w1.Change).1)) else (.done (e42,e43,e44))) else (.done (e42,e43,e44))
def F86fr (e1:Ud) (w1:HelloWord):Ud :=
 (F86fr_j0 e1 w1).fin (fun r=>r) (fun (e2,e3,e4,e5,e6,e7,e8,e9,e10,e11,e12,e13,e14,e15,e16,e17,e18,e19,e20,e21,e22,e23)=>bif (!(w1.Yours==e5)) then (⟨e2,e3,e4,e5,e6,e7,e8,w1.Turn,(w1.Yours==e5),4,e12,(⟨e13,(⟨e14,e15,e16,e17⟩:Ue)⟩:HelloChange),e18,e19,e20,e21,e22,e23⟩:Ud) else ((F86fr_j1 e1 w1 e2 e3 e4 e5 e6 e7 e8 e9 e10 e11 e12 e13 e14 e15 e16 e17 e18 e19 e20 e21 e22 e23).fin (fun r=>r) (fun (e24,e25,e26,e27,e28,e29,e30,e31,e32,e33,e34,e35,e36,e37,e38,e39,e40,e41,e42,e43,e44,e45)=>(F86fr_j2 e1 w1 e2 e3 e4 e5 e6 e7 e8 e9 e10 e11 e12 e13 e14 e15 e16 e17 e18 e19 e20 e21 e22 e23 e24 e25 e26 e27 e28 e29 e30 e31 e32 e33 e34 e35 e36 e37 e38 e39 e40 e41 e42 e43 e44 e45).fin (fun r=>r) (fun (e46,e47,e48)=>(F93 ⟨e24,e25,e26,e27,e28,e29,e30,e31,e32,e33,e34,(⟨e35,(⟨e36,e37,e38,e39⟩:Ue)⟩:HelloChange),e40,e41,e46,e47,e48,e45⟩)))))
abbrev jI86fr_0 (e1:Ud) (w1:HelloWord) (e2:Int) (e3:Int) (e4:List HelloKey) (e5:Int) (e6:List Ue) (e7:Int) (e8:Int) (e9:Int) (e10:Bool) (e11:Int) (e12:Int) (e13:Int) (e14:Int) (e15:Int) (e16:Int) (e17:Int) (e18:List Ue) (e19:Bool) (e20:Int) (e21:Bool) (e22:List Uf) (e23:Int):Prop:=LJ 8 e1 w1 e4 e6 e18 e22/\True
abbrev jJ86fr_0 (e1:Ud) (w1:HelloWord) (j:Int×Int×List HelloKey×Int×List Ue×Int×Int×Int×Bool×Int×Int×Int×Int×Int×Int×Int×List Ue×Bool×Int×Bool×List Uf×Int):Prop:=(F86fr_j0 e1 w1)=Lp.done j/\jI86fr_0 e1 w1 j.1 j.2.1 j.2.2.1 j.2.2.2.1 j.2.2.2.2.1 j.2.2.2.2.2.1 j.2.2.2.2.2.2.1 j.2.2.2.2.2.2.2.1 j.2.2.2.2.2.2.2.2.1 j.2.2.2.2.2.2.2.2.2.1 j.2.2.2.2.2.2.2.2.2.2.1 j.2.2.2.2.2.2.2.2.2.2.2.1 j.2.2.2.2.2.2.2.2.2.2.2.2.1 j.2.2.2.2.2.2.2.2.2.2.2.2.2.1 j.2.2.2.2.2.2.2.2.2.2.2.2.2.2.1 j.2.2.2.2.2.2.2.2.2.2.2.2.2.2.2.1 j.2.2.2.2.2.2.2.2.2.2.2.2.2.2.2.2.1 j.2.2.2.2.2.2.2.2.2.2.2.2.2.2.2.2.2.1 j.2.2.2.2.2.2.2.2.2.2.2.2.2.2.2.2.2.2.1 j.2.2.2.2.2.2.2.2.2.2.2.2.2.2.2.2.2.2.2.1 j.2.2.2.2.2.2.2.2.2.2.2.2.2.2.2.2.2.2.2.2.1 j.2.2.2.2.2.2.2.2.2.2.2.2.2.2.2.2.2.2.2.2.2
theorem jn86fr_0 (e1:Ud) (w1:HelloWord) (e2:Int) (e3:Int) (e4:List HelloKey) (e5:Int) (e6:List Ue) (e7:Int) (e8:Int) (e9:Int) (e10:Bool) (e11:Int) (e12:Int) (e13:Int) (e14:Int) (e15:Int) (e16:Int) (e17:Int) (e18:List Ue) (e19:Bool) (e20:Int) (e21:Bool) (e22:List Uf) (e23:Int) (e:(F86fr_j0 e1 w1)=Lp.done (e2,e3,e4,e5,e6,e7,e8,e9,e10,e11,e12,e13,e14,e15,e16,e17,e18,e19,e20,e21,e22,e23)) (h:jI86fr_0 e1 w1 e2 e3 e4 e5 e6 e7 e8 e9 e10 e11 e12 e13 e14 e15 e16 e17 e18 e19 e20 e21 e22 e23):∃ j:Int×Int×List HelloKey×Int×List Ue×Int×Int×Int×Bool×Int×Int×Int×Int×Int×Int×Int×List Ue×Bool×Int×Bool×List Uf×Int,((.int .i64 e2:Value)=.int .i64 j.1)/\((.int .i64 e3:Value)=.int .i64 j.2.1)/\((.int .i64 e5:Value)=.int .i64 j.2.2.2.1)/\((.int .i64 e7:Value)=.int .i64 j.2.2.2.2.2.1)/\((.int .i64 e8:Value)=.int .i64 j.2.2.2.2.2.2.1)/\((.int .i64 e9:Value)=.int .i64 j.2.2.2.2.2.2.2.1)/\((.bool e10:Value)=.bool j.2.2.2.2.2.2.2.2.1)/\((.int .i64 e11:Value)=.int .i64 j.2.2.2.2.2.2.2.2.2.1)/\((.int .i64 e12:Value)=.int .i64 j.2.2.2.2.2.2.2.2.2.2.1)/\((.int .i64 e13:Value)=.int .i64 j.2.2.2.2.2.2.2.2.2.2.2.1)/\((.int .i64 e14:Value)=.int .i64 j.2.2.2.2.2.2.2.2.2.2.2.2.1)/\((.int .i64 e15:Value)=.int .i64 j.2.2.2.2.2.2.2.2.2.2.2.2.2.1)/\((.int .i64 e16:Value)=.int .i64 j.2.2.2.2.2.2.2.2.2.2.2.2.2.2.1)/\((.int .i64 e17:Value)=.int .i64 j.2.2.2.2.2.2.2.2.2.2.2.2.2.2.2.1)/\((.bool e19:Value)=.bool j.2.2.2.2.2.2.2.2.2.2.2.2.2.2.2.2.2.1)/\((.int .i64 e20:Value)=.int .i64 j.2.2.2.2.2.2.2.2.2.2.2.2.2.2.2.2.2.2.1)/\((.bool e21:Value)=.bool j.2.2.2.2.2.2.2.2.2.2.2.2.2.2.2.2.2.2.2.1)/\((.int .i64 e23:Value)=.int .i64 j.2.2.2.2.2.2.2.2.2.2.2.2.2.2.2.2.2.2.2.2.2)/\(Imp (.l 2 eHelloKey e4) (.l 2 eHelloKey j.2.2.1))/\(Imp (.l 4 eHelloEntry e6) (.l 4 eHelloEntry j.2.2.2.2.1))/\(Imp (.l 4 eHelloEntry e18) (.l 4 eHelloEntry j.2.2.2.2.2.2.2.2.2.2.2.2.2.2.2.2.1))/\(Imp (.l 5 eHelloRoute e22) (.l 5 eHelloRoute j.2.2.2.2.2.2.2.2.2.2.2.2.2.2.2.2.2.2.2.2.1))/\((.int .i64 w1.From:Value)=.int .i64 w1.From)/\((.int .i64 w1.To:Value)=.int .i64 w1.To)/\((.int .i64 w1.Key:Value)=.int .i64 w1.Key)/\((.int .i64 w1.Boot:Value)=.int .i64 w1.Boot)/\((.int .i64 w1.Yours:Value)=.int .i64 w1.Yours)/\((.int .i64 w1.Turn:Value)=.int .i64 w1.Turn)/\((.int .i64 w1.Num:Value)=.int .i64 w1.Num)/\((.int .i64 w1.Heard:Value)=.int .i64 w1.Heard)/\((.int .i64 w1.Change.Kind:Value)=.int .i64 w1.Change.Kind)/\((.int .i64 w1.Change.Entry.Addr:Value)=.int .i64 w1.Change.Entry.Addr)/\((.int .i64 w1.Change.Entry.Len:Value)=.int .i64 w1.Change.Entry.Len)/\((.int .i64 w1.Change.Entry.Cost:Value)=.int .i64 w1.Change.Entry.Cost)/\((.int .i64 w1.Change.Entry.Label:Value)=.int .i64 w1.Change.Entry.Label)/\((.int .i64 w1.Sum:Value)=.int .i64 w1.Sum)/\((.int .i64 0:Value)=.int .i64 0)/\((.int .i64 0:Value)=.int .i64 0)/\((.slice none 0 0:Value)=.slice none 0 0)/\((.int .i64 0:Value)=.int .i64 0)/\((.slice none 0 0:Value)=.slice none 0 0)/\((.int .i64 0:Value)=.int .i64 0)/\((.int .i64 0:Value)=.int .i64 0)/\((.int .i64 0:Value)=.int .i64 0)/\((.bool false:Value)=.bool false)/\((.int .i64 0:Value)=.int .i64 0)/\((.int .i64 0:Value)=.int .i64 0)/\((.int .i64 0:Value)=.int .i64 0)/\((.int .i64 0:Value)=.int .i64 0)/\((.int .i64 0:Value)=.int .i64 0)/\((.int .i64 0:Value)=.int .i64 0)/\((.int .i64 0:Value)=.int .i64 0)/\((.slice none 0 0:Value)=.slice none 0 0)/\((.bool false:Value)=.bool false)/\((.int .i64 0:Value)=.int .i64 0)/\((.bool false:Value)=.bool false)/\((.slice none 0 0:Value)=.slice none 0 0)/\((.int .i64 0:Value)=.int .i64 0)/\jJ86fr_0 e1 w1 j:=⟨(e2,e3,e4,e5,e6,e7,e8,e9,e10,e11,e12,e13,e14,e15,e16,e17,e18,e19,e20,e21,e22,e23),rfl,rfl,rfl,rfl,rfl,rfl,rfl,rfl,rfl,rfl,rfl,rfl,rfl,rfl,rfl,rfl,rfl,rfl,Imp.refl _,Imp.refl _,Imp.refl _,Imp.refl _,rfl,rfl,rfl,rfl,rfl,rfl,rfl,rfl,rfl,rfl,rfl,rfl,rfl,rfl,rfl,rfl,rfl,rfl,rfl,rfl,rfl,rfl,rfl,rfl,rfl,rfl,rfl,rfl,rfl,rfl,rfl,rfl,rfl,rfl,rfl,rfl,e,h⟩
abbrev jI86fr_1 (e1:Ud) (w1:HelloWord) (e2:Int) (e3:Int) (e4:List HelloKey) (e5:Int) (e6:List Ue) (e7:Int) (e8:Int) (e9:Int) (e10:Bool) (e11:Int) (e12:Int) (e13:Int) (e14:Int) (e15:Int) (e16:Int) (e17:Int) (e18:List Ue) (e19:Bool) (e20:Int) (e21:Bool) (e22:List Uf) (e23:Int) (e24:Int) (e25:Int) (e26:List HelloKey) (e27:Int) (e28:List Ue) (e29:Int) (e30:Int) (e31:Int) (e32:Bool) (e33:Int) (e34:Int) (e35:Int) (e36:Int) (e37:Int) (e38:Int) (e39:Int) (e40:List Ue) (e41:Bool) (e42:Int) (e43:Bool) (e44:List Uf) (e45:Int):Prop:=LJ 9 e1 w1 e26 e28 e40 e44/\True
abbrev jJ86fr_1 (e1:Ud) (w1:HelloWord) (e2:Int) (e3:Int) (e4:List HelloKey) (e5:Int) (e6:List Ue) (e7:Int) (e8:Int) (e9:Int) (e10:Bool) (e11:Int) (e12:Int) (e13:Int) (e14:Int) (e15:Int) (e16:Int) (e17:Int) (e18:List Ue) (e19:Bool) (e20:Int) (e21:Bool) (e22:List Uf) (e23:Int) (j:Int×Int×List HelloKey×Int×List Ue×Int×Int×Int×Bool×Int×Int×Int×Int×Int×Int×Int×List Ue×Bool×Int×Bool×List Uf×Int):Prop:=(F86fr_j1 e1 w1 e2 e3 e4 e5 e6 e7 e8 e9 e10 e11 e12 e13 e14 e15 e16 e17 e18 e19 e20 e21 e22 e23)=Lp.done j/\jI86fr_1 e1 w1 e2 e3 e4 e5 e6 e7 e8 e9 e10 e11 e12 e13 e14 e15 e16 e17 e18 e19 e20 e21 e22 e23 j.1 j.2.1 j.2.2.1 j.2.2.2.1 j.2.2.2.2.1 j.2.2.2.2.2.1 j.2.2.2.2.2.2.1 j.2.2.2.2.2.2.2.1 j.2.2.2.2.2.2.2.2.1 j.2.2.2.2.2.2.2.2.2.1 j.2.2.2.2.2.2.2.2.2.2.1 j.2.2.2.2.2.2.2.2.2.2.2.1 j.2.2.2.2.2.2.2.2.2.2.2.2.1 j.2.2.2.2.2.2.2.2.2.2.2.2.2.1 j.2.2.2.2.2.2.2.2.2.2.2.2.2.2.1 j.2.2.2.2.2.2.2.2.2.2.2.2.2.2.2.1 j.2.2.2.2.2.2.2.2.2.2.2.2.2.2.2.2.1 j.2.2.2.2.2.2.2.2.2.2.2.2.2.2.2.2.2.1 j.2.2.2.2.2.2.2.2.2.2.2.2.2.2.2.2.2.2.1 j.2.2.2.2.2.2.2.2.2.2.2.2.2.2.2.2.2.2.2.1 j.2.2.2.2.2.2.2.2.2.2.2.2.2.2.2.2.2.2.2.2.1 j.2.2.2.2.2.2.2.2.2.2.2.2.2.2.2.2.2.2.2.2.2
theorem jn86fr_1 (e1:Ud) (w1:HelloWord) (e2:Int) (e3:Int) (e4:List HelloKey) (e5:Int) (e6:List Ue) (e7:Int) (e8:Int) (e9:Int) (e10:Bool) (e11:Int) (e12:Int) (e13:Int) (e14:Int) (e15:Int) (e16:Int) (e17:Int) (e18:List Ue) (e19:Bool) (e20:Int) (e21:Bool) (e22:List Uf) (e23:Int) (e24:Int) (e25:Int) (e26:List HelloKey) (e27:Int) (e28:List Ue) (e29:Int) (e30:Int) (e31:Int) (e32:Bool) (e33:Int) (e34:Int) (e35:Int) (e36:Int) (e37:Int) (e38:Int) (e39:Int) (e40:List Ue) (e41:Bool) (e42:Int) (e43:Bool) (e44:List Uf) (e45:Int) (e:(F86fr_j1 e1 w1 e2 e3 e4 e5 e6 e7 e8 e9 e10 e11 e12 e13 e14 e15 e16 e17 e18 e19 e20 e21 e22 e23)=Lp.done (e24,e25,e26,e27,e28,e29,e30,e31,e32,e33,e34,e35,e36,e37,e38,e39,e40,e41,e42,e43,e44,e45)) (h:jI86fr_1 e1 w1 e2 e3 e4 e5 e6 e7 e8 e9 e10 e11 e12 e13 e14 e15 e16 e17 e18 e19 e20 e21 e22 e23 e24 e25 e26 e27 e28 e29 e30 e31 e32 e33 e34 e35 e36 e37 e38 e39 e40 e41 e42 e43 e44 e45):∃ j:Int×Int×List HelloKey×Int×List Ue×Int×Int×Int×Bool×Int×Int×Int×Int×Int×Int×Int×List Ue×Bool×Int×Bool×List Uf×Int,((.int .i64 e24:Value)=.int .i64 j.1)/\((.int .i64 e25:Value)=.int .i64 j.2.1)/\((.int .i64 e27:Value)=.int .i64 j.2.2.2.1)/\((.int .i64 e29:Value)=.int .i64 j.2.2.2.2.2.1)/\((.int .i64 e30:Value)=.int .i64 j.2.2.2.2.2.2.1)/\((.int .i64 e31:Value)=.int .i64 j.2.2.2.2.2.2.2.1)/\((.bool e32:Value)=.bool j.2.2.2.2.2.2.2.2.1)/\((.int .i64 e33:Value)=.int .i64 j.2.2.2.2.2.2.2.2.2.1)/\((.int .i64 e34:Value)=.int .i64 j.2.2.2.2.2.2.2.2.2.2.1)/\((.int .i64 e35:Value)=.int .i64 j.2.2.2.2.2.2.2.2.2.2.2.1)/\((.int .i64 e36:Value)=.int .i64 j.2.2.2.2.2.2.2.2.2.2.2.2.1)/\((.int .i64 e37:Value)=.int .i64 j.2.2.2.2.2.2.2.2.2.2.2.2.2.1)/\((.int .i64 e38:Value)=.int .i64 j.2.2.2.2.2.2.2.2.2.2.2.2.2.2.1)/\((.int .i64 e39:Value)=.int .i64 j.2.2.2.2.2.2.2.2.2.2.2.2.2.2.2.1)/\((.bool e41:Value)=.bool j.2.2.2.2.2.2.2.2.2.2.2.2.2.2.2.2.2.1)/\((.int .i64 e42:Value)=.int .i64 j.2.2.2.2.2.2.2.2.2.2.2.2.2.2.2.2.2.2.1)/\((.bool e43:Value)=.bool j.2.2.2.2.2.2.2.2.2.2.2.2.2.2.2.2.2.2.2.1)/\((.int .i64 e45:Value)=.int .i64 j.2.2.2.2.2.2.2.2.2.2.2.2.2.2.2.2.2.2.2.2.2)/\(Imp (.l 2 eHelloKey e26) (.l 2 eHelloKey j.2.2.1))/\(Imp (.l 4 eHelloEntry e28) (.l 4 eHelloEntry j.2.2.2.2.1))/\(Imp (.l 4 eHelloEntry e40) (.l 4 eHelloEntry j.2.2.2.2.2.2.2.2.2.2.2.2.2.2.2.2.1))/\(Imp (.l 5 eHelloRoute e44) (.l 5 eHelloRoute j.2.2.2.2.2.2.2.2.2.2.2.2.2.2.2.2.2.2.2.2.1))/\((.int .i64 w1.From:Value)=.int .i64 w1.From)/\((.int .i64 w1.To:Value)=.int .i64 w1.To)/\((.int .i64 w1.Key:Value)=.int .i64 w1.Key)/\((.int .i64 w1.Boot:Value)=.int .i64 w1.Boot)/\((.int .i64 w1.Yours:Value)=.int .i64 w1.Yours)/\((.int .i64 w1.Turn:Value)=.int .i64 w1.Turn)/\((.int .i64 w1.Num:Value)=.int .i64 w1.Num)/\((.int .i64 w1.Heard:Value)=.int .i64 w1.Heard)/\((.int .i64 w1.Change.Kind:Value)=.int .i64 w1.Change.Kind)/\((.int .i64 w1.Change.Entry.Addr:Value)=.int .i64 w1.Change.Entry.Addr)/\((.int .i64 w1.Change.Entry.Len:Value)=.int .i64 w1.Change.Entry.Len)/\((.int .i64 w1.Change.Entry.Cost:Value)=.int .i64 w1.Change.Entry.Cost)/\((.int .i64 w1.Change.Entry.Label:Value)=.int .i64 w1.Change.Entry.Label)/\((.int .i64 w1.Sum:Value)=.int .i64 w1.Sum)/\((.int .i64 0:Value)=.int .i64 0)/\((.int .i64 0:Value)=.int .i64 0)/\((.slice none 0 0:Value)=.slice none 0 0)/\((.int .i64 0:Value)=.int .i64 0)/\((.slice none 0 0:Value)=.slice none 0 0)/\((.int .i64 0:Value)=.int .i64 0)/\((.int .i64 0:Value)=.int .i64 0)/\((.int .i64 0:Value)=.int .i64 0)/\((.bool false:Value)=.bool false)/\((.int .i64 0:Value)=.int .i64 0)/\((.int .i64 0:Value)=.int .i64 0)/\((.int .i64 0:Value)=.int .i64 0)/\((.int .i64 0:Value)=.int .i64 0)/\((.int .i64 0:Value)=.int .i64 0)/\((.int .i64 0:Value)=.int .i64 0)/\((.int .i64 0:Value)=.int .i64 0)/\((.slice none 0 0:Value)=.slice none 0 0)/\((.bool false:Value)=.bool false)/\((.int .i64 0:Value)=.int .i64 0)/\((.bool false:Value)=.bool false)/\((.slice none 0 0:Value)=.slice none 0 0)/\((.int .i64 0:Value)=.int .i64 0)/\jJ86fr_1 e1 w1 e2 e3 e4 e5 e6 e7 e8 e9 e10 e11 e12 e13 e14 e15 e16 e17 e18 e19 e20 e21 e22 e23 j:=⟨(e24,e25,e26,e27,e28,e29,e30,e31,e32,e33,e34,e35,e36,e37,e38,e39,e40,e41,e42,e43,e44,e45),rfl,rfl,rfl,rfl,rfl,rfl,rfl,rfl,rfl,rfl,rfl,rfl,rfl,rfl,rfl,rfl,rfl,rfl,Imp.refl _,Imp.refl _,Imp.refl _,Imp.refl _,rfl,rfl,rfl,rfl,rfl,rfl,rfl,rfl,rfl,rfl,rfl,rfl,rfl,rfl,rfl,rfl,rfl,rfl,rfl,rfl,rfl,rfl,rfl,rfl,rfl,rfl,rfl,rfl,rfl,rfl,rfl,rfl,rfl,rfl,rfl,rfl,e,h⟩
abbrev jJ86fr_2 (e1:Ud) (w1:HelloWord) (e2:Int) (e3:Int) (e4:List HelloKey) (e5:Int) (e6:List Ue) (e7:Int) (e8:Int) (e9:Int) (e10:Bool) (e11:Int) (e12:Int) (e13:Int) (e14:Int) (e15:Int) (e16:Int) (e17:Int) (e18:List Ue) (e19:Bool) (e20:Int) (e21:Bool) (e22:List Uf) (e23:Int) (e24:Int) (e25:Int) (e26:List HelloKey) (e27:Int) (e28:List Ue) (e29:Int) (e30:Int) (e31:Int) (e32:Bool) (e33:Int) (e34:Int) (e35:Int) (e36:Int) (e37:Int) (e38:Int) (e39:Int) (e40:List Ue) (e41:Bool) (e42:Int) (e43:Bool) (e44:List Uf) (e45:Int) (j:Int×Bool×List Uf):Prop:=(F86fr_j2 e1 w1 e2 e3 e4 e5 e6 e7 e8 e9 e10 e11 e12 e13 e14 e15 e16 e17 e18 e19 e20 e21 e22 e23 e24 e25 e26 e27 e28 e29 e30 e31 e32 e33 e34 e35 e36 e37 e38 e39 e40 e41 e42 e43 e44 e45)=Lp.done j
theorem jn86fr_2 (e1:Ud) (w1:HelloWord) (e2:Int) (e3:Int) (e4:List HelloKey) (e5:Int) (e6:List Ue) (e7:Int) (e8:Int) (e9:Int) (e10:Bool) (e11:Int) (e12:Int) (e13:Int) (e14:Int) (e15:Int) (e16:Int) (e17:Int) (e18:List Ue) (e19:Bool) (e20:Int) (e21:Bool) (e22:List Uf) (e23:Int) (e24:Int) (e25:Int) (e26:List HelloKey) (e27:Int) (e28:List Ue) (e29:Int) (e30:Int) (e31:Int) (e32:Bool) (e33:Int) (e34:Int) (e35:Int) (e36:Int) (e37:Int) (e38:Int) (e39:Int) (e40:List Ue) (e41:Bool) (e42:Int) (e43:Bool) (e44:List Uf) (e45:Int) (e46:Int) (e47:Bool) (e48:List Uf) (e:(F86fr_j2 e1 w1 e2 e3 e4 e5 e6 e7 e8 e9 e10 e11 e12 e13 e14 e15 e16 e17 e18 e19 e20 e21 e22 e23 e24 e25 e26 e27 e28 e29 e30 e31 e32 e33 e34 e35 e36 e37 e38 e39 e40 e41 e42 e43 e44 e45)=Lp.done (e46,e47,e48)):∃ j:Int×Bool×List Uf,((.int .i64 e24:Value)=.int .i64 e24)/\((.int .i64 e25:Value)=.int .i64 e25)/\((.int .i64 e27:Value)=.int .i64 e27)/\((.int .i64 e29:Value)=.int .i64 e29)/\((.int .i64 e30:Value)=.int .i64 e30)/\((.int .i64 e31:Value)=.int .i64 e31)/\((.bool e32:Value)=.bool e32)/\((.int .i64 e33:Value)=.int .i64 e33)/\((.int .i64 e34:Value)=.int .i64 e34)/\((.int .i64 e35:Value)=.int .i64 e35)/\((.int .i64 e36:Value)=.int .i64 e36)/\((.int .i64 e37:Value)=.int .i64 e37)/\((.int .i64 e38:Value)=.int .i64 e38)/\((.int .i64 e39:Value)=.int .i64 e39)/\((.bool e41:Value)=.bool e41)/\((.int .i64 e46:Value)=.int .i64 j.1)/\((.bool e47:Value)=.bool j.2.1)/\((.int .i64 e45:Value)=.int .i64 e45)/\(Imp (.l 2 eHelloKey e26) (.l 2 eHelloKey e26))/\(Imp (.l 4 eHelloEntry e28) (.l 4 eHelloEntry e28))/\(Imp (.l 4 eHelloEntry e40) (.l 4 eHelloEntry e40))/\(Imp (.l 5 eHelloRoute e48) (.l 5 eHelloRoute j.2.2))/\((.int .i64 0:Value)=.int .i64 0)/\((.int .i64 0:Value)=.int .i64 0)/\((.slice none 0 0:Value)=.slice none 0 0)/\((.int .i64 0:Value)=.int .i64 0)/\((.slice none 0 0:Value)=.slice none 0 0)/\((.int .i64 0:Value)=.int .i64 0)/\((.int .i64 0:Value)=.int .i64 0)/\((.int .i64 0:Value)=.int .i64 0)/\((.bool false:Value)=.bool false)/\((.int .i64 0:Value)=.int .i64 0)/\((.int .i64 0:Value)=.int .i64 0)/\((.int .i64 0:Value)=.int .i64 0)/\((.int .i64 0:Value)=.int .i64 0)/\((.int .i64 0:Value)=.int .i64 0)/\((.int .i64 0:Value)=.int .i64 0)/\((.int .i64 0:Value)=.int .i64 0)/\((.slice none 0 0:Value)=.slice none 0 0)/\((.bool false:Value)=.bool false)/\((.int .i64 0:Value)=.int .i64 0)/\((.bool false:Value)=.bool false)/\((.slice none 0 0:Value)=.slice none 0 0)/\((.int .i64 0:Value)=.int .i64 0)/\jJ86fr_2 e1 w1 e2 e3 e4 e5 e6 e7 e8 e9 e10 e11 e12 e13 e14 e15 e16 e17 e18 e19 e20 e21 e22 e23 e24 e25 e26 e27 e28 e29 e30 e31 e32 e33 e34 e35 e36 e37 e38 e39 e40 e41 e42 e43 e44 e45 j:=⟨(e46,e47,e48),rfl,rfl,rfl,rfl,rfl,rfl,rfl,rfl,rfl,rfl,rfl,rfl,rfl,rfl,rfl,rfl,rfl,rfl,Imp.refl _,Imp.refl _,Imp.refl _,Imp.refl _,rfl,rfl,rfl,rfl,rfl,rfl,rfl,rfl,rfl,rfl,rfl,rfl,rfl,rfl,rfl,rfl,rfl,rfl,rfl,rfl,rfl,rfl,e⟩
theorem fi86fr (e1:Ud) (w1:HelloWord) (r:Ud) (hF:r=(F86fr e1 w1)):((.int .i64 r.Name:Value)=.int .i64 (F86fr e1 w1).Name)/\((.int .i64 r.Peer:Value)=.int .i64 (F86fr e1 w1).Peer)/\(Imp (.l 2 eHelloKey r.Keys) (.l 2 eHelloKey (F86fr e1 w1).Keys))/\((.int .i64 r.Boot:Value)=.int .i64 (F86fr e1 w1).Boot)/\(Imp (.l 4 eHelloEntry r.Want) (.l 4 eHelloEntry (F86fr e1 w1).Want))/\((.int .i64 r.Turn:Value)=.int .i64 (F86fr e1 w1).Turn)/\((.int .i64 r.PeerBoot:Value)=.int .i64 (F86fr e1 w1).PeerBoot)/\((.int .i64 r.PeerTurn:Value)=.int .i64 (F86fr e1 w1).PeerTurn)/\((.bool r.Up:Value)=.bool (F86fr e1 w1).Up)/\((.int .i64 r.Left:Value)=.int .i64 (F86fr e1 w1).Left)/\((.int .i64 r.Num:Value)=.int .i64 (F86fr e1 w1).Num)/\((.int .i64 r.Under.Kind:Value)=.int .i64 (F86fr e1 w1).Under.Kind)/\((.int .i64 r.Under.Entry.Addr:Value)=.int .i64 (F86fr e1 w1).Under.Entry.Addr)/\((.int .i64 r.Under.Entry.Len:Value)=.int .i64 (F86fr e1 w1).Under.Entry.Len)/\((.int .i64 r.Under.Entry.Cost:Value)=.int .i64 (F86fr e1 w1).Under.Entry.Cost)/\((.int .i64 r.Under.Entry.Label:Value)=.int .i64 (F86fr e1 w1).Under.Entry.Label)/\(Imp (.l 4 eHelloEntry r.Told) (.l 4 eHelloEntry (F86fr e1 w1).Told))/\((.bool r.All:Value)=.bool (F86fr e1 w1).All)/\((.int .i64 r.Got:Value)=.int .i64 (F86fr e1 w1).Got)/\((.bool r.Full:Value)=.bool (F86fr e1 w1).Full)/\(Imp (.l 5 eHelloRoute r.Heard) (.l 5 eHelloRoute (F86fr e1 w1).Heard))/\((.int .i64 r.Keep:Value)=.int .i64 (F86fr e1 w1).Keep)/\True:=by cases hF; exact ⟨rfl,rfl,Imp.refl _,rfl,Imp.refl _,rfl,rfl,rfl,rfl,rfl,rfl,rfl,rfl,rfl,rfl,rfl,Imp.refl _,rfl,rfl,rfl,Imp.refl _,rfl,trivial⟩
def S86fr (e1:Ud) (w1:HelloWord):Spec:=⟨[.ot (eHelloEnd e1),.r (.g (eHelloWord w1))],.ag [.v (vI (F86fr e1 w1).Name),.v (vI (F86fr e1 w1).Peer),.ow (.l 2 eHelloKey (F86fr e1 w1).Keys),.v (vI (F86fr e1 w1).Boot),.ow (.l 4 eHelloEntry (F86fr e1 w1).Want),.v (vI (F86fr e1 w1).Turn),.v (vI (F86fr e1 w1).PeerBoot),.v (vI (F86fr e1 w1).PeerTurn),.v (.bool (F86fr e1 w1).Up),.v (vI (F86fr e1 w1).Left),.v (vI (F86fr e1 w1).Num),.v (vI (F86fr e1 w1).Under.Kind),.v (vI (F86fr e1 w1).Under.Entry.Addr),.v (vI (F86fr e1 w1).Under.Entry.Len),.v (vI (F86fr e1 w1).Under.Entry.Cost),.v (vI (F86fr e1 w1).Under.Entry.Label),.ow (.l 4 eHelloEntry (F86fr e1 w1).Told),.v (.bool (F86fr e1 w1).All),.v (vI (F86fr e1 w1).Got),.v (.bool (F86fr e1 w1).Full),.ow (.l 5 eHelloRoute (F86fr e1 w1).Heard),.v (vI (F86fr e1 w1).Keep)],EndFit e1/\lisAl e1 w1=false⟩
theorem ok86fr (e1:Ud) (w1:HelloWord):(S86fr e1 w1).ok Try.prog 86 :=
 fnG_ok mixed (fn:=Try.f86) (ct:=.seq .no (.cut (ι:=Int×Int×List HelloKey×Int×List Ue×Int×Int×Int×Bool×Int×Int×Int×Int×Int×Int×Int×List Ue×Bool×Int×Bool×List Uf×Int) (fun j=>(fun (e2:Int) (e3:Int) (e4:List HelloKey) (e5:Int) (e6:List Ue) (e7:Int) (e8:Int) (e9:Int) (e10:Bool) (e11:Int) (e12:Int) (e13:Int) (e14:Int) (e15:Int) (e16:Int) (e17:Int) (e18:List Ue) (e19:Bool) (e20:Int) (e21:Bool) (e22:List Uf) (e23:Int)=>(⟨[(2,some (.p 0 0)),(3,some (.p 5 0)),(4,some (.p 6 0))],[(0,some (.box 54 [.v (vI e2),.v (vI e3),.h 1 0,.v (vI e5),.h 2 0,.v (vI e7),.v (vI e8),.v (vI e9),.v (.bool e10),.v (vI e11),.v (vI e12),.v (vI e13),.v (vI e14),.v (vI e15),.v (vI e16),.v (vI e17),.h 3 0,.v (.bool e19),.v (vI e20),.v (.bool e21),.h 4 0,.v (vI e23)])),(1,some (.own 1 (.l 2 eHelloKey e4))),(2,some (.own 2 (.l 4 eHelloEntry e6))),(3,some (.own 3 (.l 4 eHelloEntry e18))),(4,some (.own 4 (.l 5 eHelloRoute e22))),(5,some (.box 32 [.v (vI w1.From),.v (vI w1.To),.v (vI w1.Key),.v (vI w1.Boot),.v (vI w1.Yours),.v (vI w1.Turn),.v (vI w1.Num),.v (vI w1.Heard),.v (vI w1.Change.Kind),.v (vI w1.Change.Entry.Addr),.v (vI w1.Change.Entry.Len),.v (vI w1.Change.Entry.Cost),.v (vI w1.Change.Entry.Label),.v (vI w1.Sum)])),(6,some (.box 54 [.v (vI 0),.v (vI 0),.v (.slice none 0 0),.v (vI 0),.v (.slice none 0 0),.v (vI 0),.v (vI 0),.v (vI 0),.v (.bool false),.v (vI 0),.v (vI 0),.v (vI 0),.v (vI 0),.v (vI 0),.v (vI 0),.v (vI 0),.v (.slice none 0 0),.v (.bool false),.v (vI 0),.v (.bool false),.v (.slice none 0 0),.v (vI 0)]))],7⟩:St)) j.1 j.2.1 j.2.2.1 j.2.2.2.1 j.2.2.2.2.1 j.2.2.2.2.2.1 j.2.2.2.2.2.2.1 j.2.2.2.2.2.2.2.1 j.2.2.2.2.2.2.2.2.1 j.2.2.2.2.2.2.2.2.2.1 j.2.2.2.2.2.2.2.2.2.2.1 j.2.2.2.2.2.2.2.2.2.2.2.1 j.2.2.2.2.2.2.2.2.2.2.2.2.1 j.2.2.2.2.2.2.2.2.2.2.2.2.2.1 j.2.2.2.2.2.2.2.2.2.2.2.2.2.2.1 j.2.2.2.2.2.2.2.2.2.2.2.2.2.2.2.1 j.2.2.2.2.2.2.2.2.2.2.2.2.2.2.2.2.1 j.2.2.2.2.2.2.2.2.2.2.2.2.2.2.2.2.2.1 j.2.2.2.2.2.2.2.2.2.2.2.2.2.2.2.2.2.2.1 j.2.2.2.2.2.2.2.2.2.2.2.2.2.2.2.2.2.2.2.1 j.2.2.2.2.2.2.2.2.2.2.2.2.2.2.2.2.2.2.2.2.1 j.2.2.2.2.2.2.2.2.2.2.2.2.2.2.2.2.2.2.2.2.2) (jJ86fr_0 e1 w1) (.seq .no (.cond (.seq (.reg [(1,kh89 e1)]) .no) .no)) (fun j=>(fun (e2:Int) (e3:Int) (e4:List HelloKey) (e5:Int) (e6:List Ue) (e7:Int) (e8:Int) (e9:Int) (e10:Bool) (e11:Int) (e12:Int) (e13:Int) (e14:Int) (e15:Int) (e16:Int) (e17:Int) (e18:List Ue) (e19:Bool) (e20:Int) (e21:Bool) (e22:List Uf) (e23:Int)=>(.seq .no (.seq .no (.seq .no (.seq (.seq .no (.cond (.seq .no .no) .no)) (.cut (ι:=Int×Int×List HelloKey×Int×List Ue×Int×Int×Int×Bool×Int×Int×Int×Int×Int×Int×Int×List Ue×Bool×Int×Bool×List Uf×Int) (fun j=>(fun (e24:Int) (e25:Int) (e26:List HelloKey) (e27:Int) (e28:List Ue) (e29:Int) (e30:Int) (e31:Int) (e32:Bool) (e33:Int) (e34:Int) (e35:Int) (e36:Int) (e37:Int) (e38:Int) (e39:Int) (e40:List Ue) (e41:Bool) (e42:Int) (e43:Bool) (e44:List Uf) (e45:Int)=>(⟨[(2,some (.p 0 0)),(3,some (.p 5 0)),(4,some (.p 6 0))],[(0,some (.box 54 [.v (vI e24),.v (vI e25),.h 1 0,.v (vI e27),.h 2 0,.v (vI e29),.v (vI e30),.v (vI e31),.v (.bool e32),.v (vI e33),.v (vI e34),.v (vI e35),.v (vI e36),.v (vI e37),.v (vI e38),.v (vI e39),.h 3 0,.v (.bool e41),.v (vI e42),.v (.bool e43),.h 4 0,.v (vI e45)])),(1,some (.own 1 (.l 2 eHelloKey e26))),(2,some (.own 2 (.l 4 eHelloEntry e28))),(3,some (.own 3 (.l 4 eHelloEntry e40))),(4,some (.own 4 (.l 5 eHelloRoute e44))),(5,some (.box 32 [.v (vI w1.From),.v (vI w1.To),.v (vI w1.Key),.v (vI w1.Boot),.v (vI w1.Yours),.v (vI w1.Turn),.v (vI w1.Num),.v (vI w1.Heard),.v (vI w1.Change.Kind),.v (vI w1.Change.Entry.Addr),.v (vI w1.Change.Entry.Len),.v (vI w1.Change.Entry.Cost),.v (vI w1.Change.Entry.Label),.v (vI w1.Sum)])),(6,some (.box 54 [.v (vI 0),.v (vI 0),.v (.slice none 0 0),.v (vI 0),.v (.slice none 0 0),.v (vI 0),.v (vI 0),.v (vI 0),.v (.bool false),.v (vI 0),.v (vI 0),.v (vI 0),.v (vI 0),.v (vI 0),.v (vI 0),.v (vI 0),.v (.slice none 0 0),.v (.bool false),.v (vI 0),.v (.bool false),.v (.slice none 0 0),.v (vI 0)]))],7⟩:St)) j.1 j.2.1 j.2.2.1 j.2.2.2.1 j.2.2.2.2.1 j.2.2.2.2.2.1 j.2.2.2.2.2.2.1 j.2.2.2.2.2.2.2.1 j.2.2.2.2.2.2.2.2.1 j.2.2.2.2.2.2.2.2.2.1 j.2.2.2.2.2.2.2.2.2.2.1 j.2.2.2.2.2.2.2.2.2.2.2.1 j.2.2.2.2.2.2.2.2.2.2.2.2.1 j.2.2.2.2.2.2.2.2.2.2.2.2.2.1 j.2.2.2.2.2.2.2.2.2.2.2.2.2.2.1 j.2.2.2.2.2.2.2.2.2.2.2.2.2.2.2.1 j.2.2.2.2.2.2.2.2.2.2.2.2.2.2.2.2.1 j.2.2.2.2.2.2.2.2.2.2.2.2.2.2.2.2.2.1 j.2.2.2.2.2.2.2.2.2.2.2.2.2.2.2.2.2.2.1 j.2.2.2.2.2.2.2.2.2.2.2.2.2.2.2.2.2.2.2.1 j.2.2.2.2.2.2.2.2.2.2.2.2.2.2.2.2.2.2.2.2.1 j.2.2.2.2.2.2.2.2.2.2.2.2.2.2.2.2.2.2.2.2.2) (jJ86fr_1 e1 w1 e2 e3 e4 e5 e6 e7 e8 e9 e10 e11 e12 e13 e14 e15 e16 e17 e18 e19 e20 e21 e22 e23) (.seq .no (.cond (.reg [(1,.call 91 (S91 (⟨e2,e3,e4,e5,e6,e7,e8,w1.Turn,(w1.Yours==e5),4,e12,(⟨e13,(⟨e14,e15,e16,e17⟩:Ue)⟩:HelloChange),e18,e19,e20,e21,e22,e23⟩:Ud)) (ok91 (⟨e2,e3,e4,e5,e6,e7,e8,w1.Turn,(w1.Yours==e5),4,e12,(⟨e13,(⟨e14,e15,e16,e17⟩:Ue)⟩:HelloChange),e18,e19,e20,e21,e22,e23⟩:Ud)) none)]) .no)) (fun j=>(fun (e24:Int) (e25:Int) (e26:List HelloKey) (e27:Int) (e28:List Ue) (e29:Int) (e30:Int) (e31:Int) (e32:Bool) (e33:Int) (e34:Int) (e35:Int) (e36:Int) (e37:Int) (e38:Int) (e39:Int) (e40:List Ue) (e41:Bool) (e42:Int) (e43:Bool) (e44:List Uf) (e45:Int)=>(.cut (ι:=Int×Bool×List Uf) (fun j=>(fun (e46:Int) (e47:Bool) (e48:List Uf)=>(⟨[(2,some (.p 0 0)),(4,some (.p 5 0))],[(0,some (.box 54 [.v (vI e24),.v (vI e25),.h 1 0,.v (vI e27),.h 2 0,.v (vI e29),.v (vI e30),.v (vI e31),.v (.bool e32),.v (vI e33),.v (vI e34),.v (vI e35),.v (vI e36),.v (vI e37),.v (vI e38),.v (vI e39),.h 3 0,.v (.bool e41),.v (vI e46),.v (.bool e47),.h 4 0,.v (vI e45)])),(1,some (.own 1 (.l 2 eHelloKey e26))),(2,some (.own 2 (.l 4 eHelloEntry e28))),(3,some (.own 3 (.l 4 eHelloEntry e40))),(4,some (.own 4 (.l 5 eHelloRoute e48))),(5,some (.box 54 [.v (vI 0),.v (vI 0),.v (.slice none 0 0),.v (vI 0),.v (.slice none 0 0),.v (vI 0),.v (vI 0),.v (vI 0),.v (.bool false),.v (vI 0),.v (vI 0),.v (vI 0),.v (vI 0),.v (vI 0),.v (vI 0),.v (vI 0),.v (.slice none 0 0),.v (.bool false),.v (vI 0),.v (.bool false),.v (.slice none 0 0),.v (vI 0)]))],6⟩:St)) j.1 j.2.1 j.2.2) (jJ86fr_2 e1 w1 e2 e3 e4 e5 e6 e7 e8 e9 e10 e11 e12 e13 e14 e15 e16 e17 e18 e19 e20 e21 e22 e23 e24 e25 e26 e27 e28 e29 e30 e31 e32 e33 e34 e35 e36 e37 e38 e39 e40 e41 e42 e43 e44 e45) (.seq .no (.cond (.seq (.reg [(4,kh92fr e44 w1.Change)]) (.seq .no (.cond (.seq .no (.seq .no .no)) .no))) .no)) (fun j=>(fun (e46:Int) (e47:Bool) (e48:List Uf)=>(.seq (.reg [(1,.call 93 (S93 (⟨e24,e25,e26,e27,e28,e29,e30,e31,e32,e33,e34,(⟨e35,(⟨e36,e37,e38,e39⟩:Ue)⟩:HelloChange),e40,e41,e46,e47,e48,e45⟩:Ud)) (ok93 (⟨e24,e25,e26,e27,e28,e29,e30,e31,e32,e33,e34,(⟨e35,(⟨e36,e37,e38,e39⟩:Ue)⟩:HelloChange),e40,e41,e46,e47,e48,e45⟩:Ud)) none)]) .no)) j.1 j.2.1 j.2.2))) j.1 j.2.1 j.2.2.1 j.2.2.2.1 j.2.2.2.2.1 j.2.2.2.2.2.1 j.2.2.2.2.2.2.1 j.2.2.2.2.2.2.2.1 j.2.2.2.2.2.2.2.2.1 j.2.2.2.2.2.2.2.2.2.1 j.2.2.2.2.2.2.2.2.2.2.1 j.2.2.2.2.2.2.2.2.2.2.2.1 j.2.2.2.2.2.2.2.2.2.2.2.2.1 j.2.2.2.2.2.2.2.2.2.2.2.2.2.1 j.2.2.2.2.2.2.2.2.2.2.2.2.2.2.1 j.2.2.2.2.2.2.2.2.2.2.2.2.2.2.2.1 j.2.2.2.2.2.2.2.2.2.2.2.2.2.2.2.2.1 j.2.2.2.2.2.2.2.2.2.2.2.2.2.2.2.2.2.1 j.2.2.2.2.2.2.2.2.2.2.2.2.2.2.2.2.2.2.1 j.2.2.2.2.2.2.2.2.2.2.2.2.2.2.2.2.2.2.2.1 j.2.2.2.2.2.2.2.2.2.2.2.2.2.2.2.2.2.2.2.2.1 j.2.2.2.2.2.2.2.2.2.2.2.2.2.2.2.2.2.2.2.2.2))))))) j.1 j.2.1 j.2.2.1 j.2.2.2.1 j.2.2.2.2.1 j.2.2.2.2.2.1 j.2.2.2.2.2.2.1 j.2.2.2.2.2.2.2.1 j.2.2.2.2.2.2.2.2.1 j.2.2.2.2.2.2.2.2.2.1 j.2.2.2.2.2.2.2.2.2.2.1 j.2.2.2.2.2.2.2.2.2.2.2.1 j.2.2.2.2.2.2.2.2.2.2.2.2.1 j.2.2.2.2.2.2.2.2.2.2.2.2.2.1 j.2.2.2.2.2.2.2.2.2.2.2.2.2.2.1 j.2.2.2.2.2.2.2.2.2.2.2.2.2.2.2.1 j.2.2.2.2.2.2.2.2.2.2.2.2.2.2.2.2.1 j.2.2.2.2.2.2.2.2.2.2.2.2.2.2.2.2.2.1 j.2.2.2.2.2.2.2.2.2.2.2.2.2.2.2.2.2.2.1 j.2.2.2.2.2.2.2.2.2.2.2.2.2.2.2.2.2.2.2.1 j.2.2.2.2.2.2.2.2.2.2.2.2.2.2.2.2.2.2.2.2.1 j.2.2.2.2.2.2.2.2.2.2.2.2.2.2.2.2.2.2.2.2.2))) Try.func86 (fun (hp:EndFit e1/\lisAl e1 w1=false)=>have hpre0:=hp.1; have hpre1:=hp.2; ai (ifd (w1.Boot>e1.PeerBoot) (fun h1 _=>kc89 e1 (jn86fr_0 e1 w1 (F89 e1).Name (F89 e1).Peer (F89 e1).Keys (F89 e1).Boot (F89 e1).Want (F89 e1).Turn w1.Boot (F89 e1).PeerTurn (F89 e1).Up (F89 e1).Left (F89 e1).Num (F89 e1).Under.Kind (F89 e1).Under.Entry.Addr (F89 e1).Under.Entry.Len (F89 e1).Under.Entry.Cost (F89 e1).Under.Entry.Label (F89 e1).Told (F89 e1).All (F89 e1).Got (F89 e1).Full (F89 e1).Heard (F89 e1).Keep (Q5 (condT h1 rfl)) uu20)) (fun h1 _=>jn86fr_0 e1 w1 e1.Name e1.Peer e1.Keys e1.Boot e1.Want e1.Turn e1.PeerBoot e1.PeerTurn e1.Up e1.Left e1.Num e1.Under.Kind e1.Under.Entry.Addr e1.Under.Entry.Len e1.Under.Entry.Cost e1.Under.Entry.Label e1.Told e1.All e1.Got e1.Full e1.Heard e1.Keep (Q5 (condF h1 rfl)) uu20)) (fun (j:Int×Int×List HelloKey×Int×List Ue×Int×Int×Int×Bool×Int×Int×Int×Int×Int×Int×Int×List Ue×Bool×Int×Bool×List Uf×Int) (hj:jJ86fr_0 e1 w1 j)=>(fun (e2:Int) (e3:Int) (e4:List HelloKey) (e5:Int) (e6:List Ue) (e7:Int) (e8:Int) (e9:Int) (e10:Bool) (e11:Int) (e12:Int) (e13:Int) (e14:Int) (e15:Int) (e16:Int) (e17:Int) (e18:List Ue) (e19:Bool) (e20:Int) (e21:Bool) (e22:List Uf) (e23:Int) (hJ0_2:(F86fr_j0 e1 w1)=Lp.done (e2,e3,e4,e5,e6,e7,e8,e9,e10,e11,e12,e13,e14,e15,e16,e17,e18,e19,e20,e21,e22,e23)) (hw:jI86fr_0 e1 w1 e2 e3 e4 e5 e6 e7 e8 e9 e10 e11 e12 e13 e14 e15 e16 e17 e18 e19 e20 e21 e22 e23)=>have _:=hw.1; ifb (!(w1.Yours==e5)) (fun h3=>have _:=beqF (notET h3); fi86fr e1 w1 (⟨e2,e3,e4,e5,e6,e7,e8,w1.Turn,(w1.Yours==e5),4,e12,(⟨e13,(⟨e14,e15,e16,e17⟩:Ue)⟩:HelloChange),e18,e19,e20,e21,e22,e23⟩:Ud) (finD hJ0_2 (condT h3 rfl))) (fun h3=>have _:=eq_of_beq (notEF h3); ai (ifb (bif decide (e13>0) then (w1.Heard==e12) else false) (fun h4=>have _:=Qc (andT1 h4); have _:=eq_of_beq (andT2 h4); ai (by exact lj_small (by assumption) (by assumption):smallE (⟨e2,e3,e4,e5,e6,e7,e8,w1.Turn,(w1.Yours==e5),4,e12,(⟨e13,(⟨e14,e15,e16,e17⟩:Ue)⟩:HelloChange),e18,e19,e20,e21,e22,e23⟩:Ud)) (ai (Imps.refl (eHelloEnd (⟨e2,e3,e4,e5,e6,e7,e8,w1.Turn,(w1.Yours==e5),4,e12,(⟨e13,(⟨e14,e15,e16,e17⟩:Ue)⟩:HelloChange),e18,e19,e20,e21,e22,e23⟩:Ud))) (have gv5:(F91 ⟨e2,e3,e4,e5,e6,e7,e8,w1.Turn,(w1.Yours==e5),4,e12,(⟨e13,(⟨e14,e15,e16,e17⟩:Ue)⟩:HelloChange),e18,e19,e20,e21,e22,e23⟩).Heard=e22/\(F91 ⟨e2,e3,e4,e5,e6,e7,e8,w1.Turn,(w1.Yours==e5),4,e12,(⟨e13,(⟨e14,e15,e16,e17⟩:Ue)⟩:HelloChange),e18,e19,e20,e21,e22,e23⟩).Keys=e4/\(F91 ⟨e2,e3,e4,e5,e6,e7,e8,w1.Turn,(w1.Yours==e5),4,e12,(⟨e13,(⟨e14,e15,e16,e17⟩:Ue)⟩:HelloChange),e18,e19,e20,e21,e22,e23⟩).Want=e6/\(F91 ⟨e2,e3,e4,e5,e6,e7,e8,w1.Turn,(w1.Yours==e5),4,e12,(⟨e13,(⟨e14,e15,e16,e17⟩:Ue)⟩:HelloChange),e18,e19,e20,e21,e22,e23⟩).Told.length<=e18.length+1:=answered_len (⟨e2,e3,e4,e5,e6,e7,e8,w1.Turn,(w1.Yours==e5),4,e12,(⟨e13,(⟨e14,e15,e16,e17⟩:Ue)⟩:HelloChange),e18,e19,e20,e21,e22,e23⟩:Ud); jn86fr_1 e1 w1 e2 e3 e4 e5 e6 e7 e8 e9 e10 e11 e12 e13 e14 e15 e16 e17 e18 e19 e20 e21 e22 e23 (F91 ⟨e2,e3,e4,e5,e6,e7,e8,w1.Turn,(w1.Yours==e5),4,e12,(⟨e13,(⟨e14,e15,e16,e17⟩:Ue)⟩:HelloChange),e18,e19,e20,e21,e22,e23⟩).Name (F91 ⟨e2,e3,e4,e5,e6,e7,e8,w1.Turn,(w1.Yours==e5),4,e12,(⟨e13,(⟨e14,e15,e16,e17⟩:Ue)⟩:HelloChange),e18,e19,e20,e21,e22,e23⟩).Peer (F91 ⟨e2,e3,e4,e5,e6,e7,e8,w1.Turn,(w1.Yours==e5),4,e12,(⟨e13,(⟨e14,e15,e16,e17⟩:Ue)⟩:HelloChange),e18,e19,e20,e21,e22,e23⟩).Keys (F91 ⟨e2,e3,e4,e5,e6,e7,e8,w1.Turn,(w1.Yours==e5),4,e12,(⟨e13,(⟨e14,e15,e16,e17⟩:Ue)⟩:HelloChange),e18,e19,e20,e21,e22,e23⟩).Boot (F91 ⟨e2,e3,e4,e5,e6,e7,e8,w1.Turn,(w1.Yours==e5),4,e12,(⟨e13,(⟨e14,e15,e16,e17⟩:Ue)⟩:HelloChange),e18,e19,e20,e21,e22,e23⟩).Want (F91 ⟨e2,e3,e4,e5,e6,e7,e8,w1.Turn,(w1.Yours==e5),4,e12,(⟨e13,(⟨e14,e15,e16,e17⟩:Ue)⟩:HelloChange),e18,e19,e20,e21,e22,e23⟩).Turn (F91 ⟨e2,e3,e4,e5,e6,e7,e8,w1.Turn,(w1.Yours==e5),4,e12,(⟨e13,(⟨e14,e15,e16,e17⟩:Ue)⟩:HelloChange),e18,e19,e20,e21,e22,e23⟩).PeerBoot (F91 ⟨e2,e3,e4,e5,e6,e7,e8,w1.Turn,(w1.Yours==e5),4,e12,(⟨e13,(⟨e14,e15,e16,e17⟩:Ue)⟩:HelloChange),e18,e19,e20,e21,e22,e23⟩).PeerTurn (F91 ⟨e2,e3,e4,e5,e6,e7,e8,w1.Turn,(w1.Yours==e5),4,e12,(⟨e13,(⟨e14,e15,e16,e17⟩:Ue)⟩:HelloChange),e18,e19,e20,e21,e22,e23⟩).Up (F91 ⟨e2,e3,e4,e5,e6,e7,e8,w1.Turn,(w1.Yours==e5),4,e12,(⟨e13,(⟨e14,e15,e16,e17⟩:Ue)⟩:HelloChange),e18,e19,e20,e21,e22,e23⟩).Left (F91 ⟨e2,e3,e4,e5,e6,e7,e8,w1.Turn,(w1.Yours==e5),4,e12,(⟨e13,(⟨e14,e15,e16,e17⟩:Ue)⟩:HelloChange),e18,e19,e20,e21,e22,e23⟩).Num (F91 ⟨e2,e3,e4,e5,e6,e7,e8,w1.Turn,(w1.Yours==e5),4,e12,(⟨e13,(⟨e14,e15,e16,e17⟩:Ue)⟩:HelloChange),e18,e19,e20,e21,e22,e23⟩).Under.Kind (F91 ⟨e2,e3,e4,e5,e6,e7,e8,w1.Turn,(w1.Yours==e5),4,e12,(⟨e13,(⟨e14,e15,e16,e17⟩:Ue)⟩:HelloChange),e18,e19,e20,e21,e22,e23⟩).Under.Entry.Addr (F91 ⟨e2,e3,e4,e5,e6,e7,e8,w1.Turn,(w1.Yours==e5),4,e12,(⟨e13,(⟨e14,e15,e16,e17⟩:Ue)⟩:HelloChange),e18,e19,e20,e21,e22,e23⟩).Under.Entry.Len (F91 ⟨e2,e3,e4,e5,e6,e7,e8,w1.Turn,(w1.Yours==e5),4,e12,(⟨e13,(⟨e14,e15,e16,e17⟩:Ue)⟩:HelloChange),e18,e19,e20,e21,e22,e23⟩).Under.Entry.Cost (F91 ⟨e2,e3,e4,e5,e6,e7,e8,w1.Turn,(w1.Yours==e5),4,e12,(⟨e13,(⟨e14,e15,e16,e17⟩:Ue)⟩:HelloChange),e18,e19,e20,e21,e22,e23⟩).Under.Entry.Label (F91 ⟨e2,e3,e4,e5,e6,e7,e8,w1.Turn,(w1.Yours==e5),4,e12,(⟨e13,(⟨e14,e15,e16,e17⟩:Ue)⟩:HelloChange),e18,e19,e20,e21,e22,e23⟩).Told (F91 ⟨e2,e3,e4,e5,e6,e7,e8,w1.Turn,(w1.Yours==e5),4,e12,(⟨e13,(⟨e14,e15,e16,e17⟩:Ue)⟩:HelloChange),e18,e19,e20,e21,e22,e23⟩).All (F91 ⟨e2,e3,e4,e5,e6,e7,e8,w1.Turn,(w1.Yours==e5),4,e12,(⟨e13,(⟨e14,e15,e16,e17⟩:Ue)⟩:HelloChange),e18,e19,e20,e21,e22,e23⟩).Got (F91 ⟨e2,e3,e4,e5,e6,e7,e8,w1.Turn,(w1.Yours==e5),4,e12,(⟨e13,(⟨e14,e15,e16,e17⟩:Ue)⟩:HelloChange),e18,e19,e20,e21,e22,e23⟩).Full (F91 ⟨e2,e3,e4,e5,e6,e7,e8,w1.Turn,(w1.Yours==e5),4,e12,(⟨e13,(⟨e14,e15,e16,e17⟩:Ue)⟩:HelloChange),e18,e19,e20,e21,e22,e23⟩).Heard (F91 ⟨e2,e3,e4,e5,e6,e7,e8,w1.Turn,(w1.Yours==e5),4,e12,(⟨e13,(⟨e14,e15,e16,e17⟩:Ue)⟩:HelloChange),e18,e19,e20,e21,e22,e23⟩).Keep (Q5 (condT h4 rfl)) uu20))) (fun h4=>jn86fr_1 e1 w1 e2 e3 e4 e5 e6 e7 e8 e9 e10 e11 e12 e13 e14 e15 e16 e17 e18 e19 e20 e21 e22 e23 e2 e3 e4 e5 e6 e7 e8 w1.Turn (w1.Yours==e5) 4 e12 e13 e14 e15 e16 e17 e18 e19 e20 e21 e22 e23 (Q5 (condF h4 rfl)) uu20)) (fun (j:Int×Int×List HelloKey×Int×List Ue×Int×Int×Int×Bool×Int×Int×Int×Int×Int×Int×Int×List Ue×Bool×Int×Bool×List Uf×Int) (hj:jJ86fr_1 e1 w1 e2 e3 e4 e5 e6 e7 e8 e9 e10 e11 e12 e13 e14 e15 e16 e17 e18 e19 e20 e21 e22 e23 j)=>(fun (e24:Int) (e25:Int) (e26:List HelloKey) (e27:Int) (e28:List Ue) (e29:Int) (e30:Int) (e31:Int) (e32:Bool) (e33:Int) (e34:Int) (e35:Int) (e36:Int) (e37:Int) (e38:Int) (e39:Int) (e40:List Ue) (e41:Bool) (e42:Int) (e43:Bool) (e44:List Uf) (e45:Int) (hJ1_6:(F86fr_j1 e1 w1 e2 e3 e4 e5 e6 e7 e8 e9 e10 e11 e12 e13 e14 e15 e16 e17 e18 e19 e20 e21 e22 e23)=Lp.done (e24,e25,e26,e27,e28,e29,e30,e31,e32,e33,e34,e35,e36,e37,e38,e39,e40,e41,e42,e43,e44,e45)) (hw:jI86fr_1 e1 w1 e2 e3 e4 e5 e6 e7 e8 e9 e10 e11 e12 e13 e14 e15 e16 e17 e18 e19 e20 e21 e22 e23 e24 e25 e26 e27 e28 e29 e30 e31 e32 e33 e34 e35 e36 e37 e38 e39 e40 e41 e42 e43 e44 e45)=>have _:=hw.1; ai (ifb (bif decide (w1.Change.Kind>0) then (w1.Num==(IntKind.i64.wrap (e42+1))) else false) (fun h7=>have _:=Qc (andT1 h7); have _:=eq_of_beq (andT2 h7); kc92fr e44 w1.Change uu27 uu27 (ifb (F92fr e44 w1.Change).2 (fun h8=>jn86fr_2 e1 w1 e2 e3 e4 e5 e6 e7 e8 e9 e10 e11 e12 e13 e14 e15 e16 e17 e18 e19 e20 e21 e22 e23 e24 e25 e26 e27 e28 e29 e30 e31 e32 e33 e34 e35 e36 e37 e38 e39 e40 e41 e42 e43 e44 e45 w1.Num (bif e43 then true else (w1.Change.Kind==3)) (F92fr e44 w1.Change).1 (Q5 (condT h7 (condT h8 rfl))) ) (fun h8=>jn86fr_2 e1 w1 e2 e3 e4 e5 e6 e7 e8 e9 e10 e11 e12 e13 e14 e15 e16 e17 e18 e19 e20 e21 e22 e23 e24 e25 e26 e27 e28 e29 e30 e31 e32 e33 e34 e35 e36 e37 e38 e39 e40 e41 e42 e43 e44 e45 e42 e43 e44 (Q5 (condT h7 (condF h8 rfl))) ))) (fun h7=>jn86fr_2 e1 w1 e2 e3 e4 e5 e6 e7 e8 e9 e10 e11 e12 e13 e14 e15 e16 e17 e18 e19 e20 e21 e22 e23 e24 e25 e26 e27 e28 e29 e30 e31 e32 e33 e34 e35 e36 e37 e38 e39 e40 e41 e42 e43 e44 e45 e42 e43 e44 (Q5 (condF h7 rfl)) )) (fun (j:Int×Bool×List Uf) (hj:jJ86fr_2 e1 w1 e2 e3 e4 e5 e6 e7 e8 e9 e10 e11 e12 e13 e14 e15 e16 e17 e18 e19 e20 e21 e22 e23 e24 e25 e26 e27 e28 e29 e30 e31 e32 e33 e34 e35 e36 e37 e38 e39 e40 e41 e42 e43 e44 e45 j)=>(fun (e46:Int) (e47:Bool) (e48:List Uf) (hJ2_9:(F86fr_j2 e1 w1 e2 e3 e4 e5 e6 e7 e8 e9 e10 e11 e12 e13 e14 e15 e16 e17 e18 e19 e20 e21 e22 e23 e24 e25 e26 e27 e28 e29 e30 e31 e32 e33 e34 e35 e36 e37 e38 e39 e40 e41 e42 e43 e44 e45)=Lp.done (e46,e47,e48))=>ai trivial (ai (Imps.refl (eHelloEnd (⟨e24,e25,e26,e27,e28,e29,e30,e31,e32,e33,e34,(⟨e35,(⟨e36,e37,e38,e39⟩:Ue)⟩:HelloChange),e40,e41,e46,e47,e48,e45⟩:Ud))) (fi86fr e1 w1 (F93 ⟨e24,e25,e26,e27,e28,e29,e30,e31,e32,e33,e34,(⟨e35,(⟨e36,e37,e38,e39⟩:Ue)⟩:HelloChange),e40,e41,e46,e47,e48,e45⟩) (finD hJ0_2 (condF h3 (finD hJ1_6 (finD hJ2_9 rfl))))))) j.1 j.2.1 j.2.2 hj)) j.1 j.2.1 j.2.2.1 j.2.2.2.1 j.2.2.2.2.1 j.2.2.2.2.2.1 j.2.2.2.2.2.2.1 j.2.2.2.2.2.2.2.1 j.2.2.2.2.2.2.2.2.1 j.2.2.2.2.2.2.2.2.2.1 j.2.2.2.2.2.2.2.2.2.2.1 j.2.2.2.2.2.2.2.2.2.2.2.1 j.2.2.2.2.2.2.2.2.2.2.2.2.1 j.2.2.2.2.2.2.2.2.2.2.2.2.2.1 j.2.2.2.2.2.2.2.2.2.2.2.2.2.2.1 j.2.2.2.2.2.2.2.2.2.2.2.2.2.2.2.1 j.2.2.2.2.2.2.2.2.2.2.2.2.2.2.2.2.1 j.2.2.2.2.2.2.2.2.2.2.2.2.2.2.2.2.2.1 j.2.2.2.2.2.2.2.2.2.2.2.2.2.2.2.2.2.2.1 j.2.2.2.2.2.2.2.2.2.2.2.2.2.2.2.2.2.2.2.1 j.2.2.2.2.2.2.2.2.2.2.2.2.2.2.2.2.2.2.2.2.1 j.2.2.2.2.2.2.2.2.2.2.2.2.2.2.2.2.2.2.2.2.2 hj.1 hj.2))) j.1 j.2.1 j.2.2.1 j.2.2.2.1 j.2.2.2.2.1 j.2.2.2.2.2.1 j.2.2.2.2.2.2.1 j.2.2.2.2.2.2.2.1 j.2.2.2.2.2.2.2.2.1 j.2.2.2.2.2.2.2.2.2.1 j.2.2.2.2.2.2.2.2.2.2.1 j.2.2.2.2.2.2.2.2.2.2.2.1 j.2.2.2.2.2.2.2.2.2.2.2.2.1 j.2.2.2.2.2.2.2.2.2.2.2.2.2.1 j.2.2.2.2.2.2.2.2.2.2.2.2.2.2.1 j.2.2.2.2.2.2.2.2.2.2.2.2.2.2.2.1 j.2.2.2.2.2.2.2.2.2.2.2.2.2.2.2.2.1 j.2.2.2.2.2.2.2.2.2.2.2.2.2.2.2.2.2.1 j.2.2.2.2.2.2.2.2.2.2.2.2.2.2.2.2.2.2.1 j.2.2.2.2.2.2.2.2.2.2.2.2.2.2.2.2.2.2.2.1 j.2.2.2.2.2.2.2.2.2.2.2.2.2.2.2.2.2.2.2.2.1 j.2.2.2.2.2.2.2.2.2.2.2.2.2.2.2.2.2.2.2.2.2 hj.1 hj.2)) uu3
def F86 (e1:Ud) (w1:HelloWord):Ud:=bif lisAl e1 w1 then F86al e1 w1 else F86fr e1 w1
def S86 (e1:Ud) (w1:HelloWord):Spec:=⟨[.ot (eHelloEnd e1),.r (.g (eHelloWord w1))],.ag [.v (vI (F86 e1 w1).Name),.v (vI (F86 e1 w1).Peer),.ow (.l 2 eHelloKey (F86 e1 w1).Keys),.v (vI (F86 e1 w1).Boot),.ow (.l 4 eHelloEntry (F86 e1 w1).Want),.v (vI (F86 e1 w1).Turn),.v (vI (F86 e1 w1).PeerBoot),.v (vI (F86 e1 w1).PeerTurn),.v (.bool (F86 e1 w1).Up),.v (vI (F86 e1 w1).Left),.v (vI (F86 e1 w1).Num),.v (vI (F86 e1 w1).Under.Kind),.v (vI (F86 e1 w1).Under.Entry.Addr),.v (vI (F86 e1 w1).Under.Entry.Len),.v (vI (F86 e1 w1).Under.Entry.Cost),.v (vI (F86 e1 w1).Under.Entry.Label),.ow (.l 4 eHelloEntry (F86 e1 w1).Told),.v (.bool (F86 e1 w1).All),.v (vI (F86 e1 w1).Got),.v (.bool (F86 e1 w1).Full),.ow (.l 5 eHelloRoute (F86 e1 w1).Heard),.v (vI (F86 e1 w1).Keep)],EndFit e1⟩
theorem ok86 (e1:Ud) (w1:HelloWord):(S86 e1 w1).ok Try.prog 86:=by
 intro hp
 unfold S86
 cases hA:lisAl e1 w1 with
 | true =>
  have h:=ok86al e1 w1 (by exact ⟨hp,hA⟩)
  rw [show F86 e1 w1=F86al e1 w1 by unfold F86; rw [hA]; rfl]
  unfold S86al at h
  exact h
 | false =>
  have h:=ok86fr e1 w1 (by exact ⟨hp,hA⟩)
  rw [show F86 e1 w1=F86fr e1 w1 by unfold F86; rw [hA]; rfl]
  unfold S86fr at h
  exact h
def F80_j0 (e1:Ud):Lp (List Uf×Int) Ud :=
 bif (decide (e1.Keep>0)) then (bif ((e1.Keep-1)==0) then (.done ((F88 e1.Heard),(e1.Keep-1))) else (.done (e1.Heard,(e1.Keep-1)))) else (.done (e1.Heard,e1.Keep))
def F80_j1 (e1:Ud) (x9:List Uf) (x10:Int):Lp (Int×Int×List HelloKey×Int×List Ue×Int×Int×Int×Bool×Int×Int×Int×Int×Int×Int×Int×List Ue×Bool×Int×Bool×List Uf×Int) Ud :=
 bif (decide (e1.Left>0)) then (bif ((e1.Left-1)==0) then (.done ((F82 ⟨e1.Name,e1.Peer,e1.Keys,e1.Boot,e1.Want,e1.Turn,e1.PeerBoot,e1.PeerTurn,e1.Up,(e1.Left-1),e1.Num,e1.Under,e1.Told,e1.All,e1.Got,e1.Full,x9,x10⟩).Name,(F82 ⟨e1.Name,e1.Peer,e1.Keys,e1.Boot,e1.Want,e1.Turn,e1.PeerBoot,e1.PeerTurn,e1.Up,(e1.Left-1),e1.Num,e1.Under,e1.Told,e1.All,e1.Got,e1.Full,x9,x10⟩).Peer,(F82 ⟨e1.Name,e1.Peer,e1.Keys,e1.Boot,e1.Want,e1.Turn,e1.PeerBoot,e1.PeerTurn,e1.Up,(e1.Left-1),e1.Num,e1.Under,e1.Told,e1.All,e1.Got,e1.Full,x9,x10⟩).Keys,(F82 ⟨e1.Name,e1.Peer,e1.Keys,e1.Boot,e1.Want,e1.Turn,e1.PeerBoot,e1.PeerTurn,e1.Up,(e1.Left-1),e1.Num,e1.Under,e1.Told,e1.All,e1.Got,e1.Full,x9,x10⟩).Boot,(F82 ⟨e1.Name,e1.Peer,e1.Keys,e1.Boot,e1.Want,e1.Turn,e1.PeerBoot,e1.PeerTurn,e1.Up,(e1.Left-1),e1.Num,e1.Under,e1.Told,e1.All,e1.Got,e1.Full,x9,x10⟩).Want,(F82 ⟨e1.Name,e1.Peer,e1.Keys,e1.Boot,e1.Want,e1.Turn,e1.PeerBoot,e1.PeerTurn,e1.Up,(e1.Left-1),e1.Num,e1.Under,e1.Told,e1.All,e1.Got,e1.Full,x9,x10⟩).Turn,(F82 ⟨e1.Name,e1.Peer,e1.Keys,e1.Boot,e1.Want,e1.Turn,e1.PeerBoot,e1.PeerTurn,e1.Up,(e1.Left-1),e1.Num,e1.Under,e1.Told,e1.All,e1.Got,e1.Full,x9,x10⟩).PeerBoot,(F82 ⟨e1.Name,e1.Peer,e1.Keys,e1.Boot,e1.Want,e1.Turn,e1.PeerBoot,e1.PeerTurn,e1.Up,(e1.Left-1),e1.Num,e1.Under,e1.Told,e1.All,e1.Got,e1.Full,x9,x10⟩).PeerTurn,(F82 ⟨e1.Name,e1.Peer,e1.Keys,e1.Boot,e1.Want,e1.Turn,e1.PeerBoot,e1.PeerTurn,e1.Up,(e1.Left-1),e1.Num,e1.Under,e1.Told,e1.All,e1.Got,e1.Full,x9,x10⟩).Up,(F82 ⟨e1.Name,e1.Peer,e1.Keys,e1.Boot,e1.Want,e1.Turn,e1.PeerBoot,e1.PeerTurn,e1.Up,(e1.Left-1),e1.Num,e1.Under,e1.Told,e1.All,e1.Got,e1.Full,x9,x10⟩).Left,(F82 ⟨e1.Name,e1.Peer,e1.Keys,e1.Boot,e1.Want,e1.Turn,e1.PeerBoot,e1.PeerTurn,e1.Up,(e1.Left-1),e1.Num,e1.Under,e1.Told,e1.All,e1.Got,e1.Full,x9,x10⟩).Num,(F82 ⟨e1.Name,e1.Peer,e1.Keys,e1.Boot,e1.Want,e1.Turn,e1.PeerBoot,e1.PeerTurn,e1.Up,(e1.Left-1),e1.Num,e1.Under,e1.Told,e1.All,e1.Got,e1.Full,x9,x10⟩).Under.Kind,(F82 ⟨e1.Name,e1.Peer,e1.Keys,e1.Boot,e1.Want,e1.Turn,e1.PeerBoot,e1.PeerTurn,e1.Up,(e1.Left-1),e1.Num,e1.Under,e1.Told,e1.All,e1.Got,e1.Full,x9,x10⟩).Under.Entry.Addr,(F82 ⟨e1.Name,e1.Peer,e1.Keys,e1.Boot,e1.Want,e1.Turn,e1.PeerBoot,e1.PeerTurn,e1.Up,(e1.Left-1),e1.Num,e1.Under,e1.Told,e1.All,e1.Got,e1.Full,x9,x10⟩).Under.Entry.Len,(F82 ⟨e1.Name,e1.Peer,e1.Keys,e1.Boot,e1.Want,e1.Turn,e1.PeerBoot,e1.PeerTurn,e1.Up,(e1.Left-1),e1.Num,e1.Under,e1.Told,e1.All,e1.Got,e1.Full,x9,x10⟩).Under.Entry.Cost,(F82 ⟨e1.Name,e1.Peer,e1.Keys,e1.Boot,e1.Want,e1.Turn,e1.PeerBoot,e1.PeerTurn,e1.Up,(e1.Left-1),e1.Num,e1.Under,e1.Told,e1.All,e1.Got,e1.Full,x9,x10⟩).Under.Entry.Label,(F82 ⟨e1.Name,e1.Peer,e1.Keys,e1.Boot,e1.Want,e1.Turn,e1.PeerBoot,e1.PeerTurn,e1.Up,(e1.Left-1),e1.Num,e1.Under,e1.Told,e1.All,e1.Got,e1.Full,x9,x10⟩).Told,(F82 ⟨e1.Name,e1.Peer,e1.Keys,e1.Boot,e1.Want,e1.Turn,e1.PeerBoot,e1.PeerTurn,e1.Up,(e1.Left-1),e1.Num,e1.Under,e1.Told,e1.All,e1.Got,e1.Full,x9,x10⟩).All,(F82 ⟨e1.Name,e1.Peer,e1.Keys,e1.Boot,e1.Want,e1.Turn,e1.PeerBoot,e1.PeerTurn,e1.Up,(e1.Left-1),e1.Num,e1.Under,e1.Told,e1.All,e1.Got,e1.Full,x9,x10⟩).Got,(F82 ⟨e1.Name,e1.Peer,e1.Keys,e1.Boot,e1.Want,e1.Turn,e1.PeerBoot,e1.PeerTurn,e1.Up,(e1.Left-1),e1.Num,e1.Under,e1.Told,e1.All,e1.Got,e1.Full,x9,x10⟩).Full,(F82 ⟨e1.Name,e1.Peer,e1.Keys,e1.Boot,e1.Want,e1.Turn,e1.PeerBoot,e1.PeerTurn,e1.Up,(e1.Left-1),e1.Num,e1.Under,e1.Told,e1.All,e1.Got,e1.Full,x9,x10⟩).Heard,(F82 ⟨e1.Name,e1.Peer,e1.Keys,e1.Boot,e1.Want,e1.Turn,e1.PeerBoot,e1.PeerTurn,e1.Up,(e1.Left-1),e1.Num,e1.Under,e1.Told,e1.All,e1.Got,e1.Full,x9,x10⟩).Keep)) else (.done (e1.Name,e1.Peer,e1.Keys,e1.Boot,e1.Want,e1.Turn,e1.PeerBoot,e1.PeerTurn,e1.Up,(e1.Left-1),e1.Num,e1.Under.Kind,e1.Under.Entry.Addr,e1.Under.Entry.Len,e1.Under.Entry.Cost,e1.Under.Entry.Label,e1.Told,e1.All,e1.Got,e1.Full,x9,x10))) else (.done (e1.Name,e1.Peer,e1.Keys,e1.Boot,e1.Want,e1.Turn,e1.PeerBoot,e1.PeerTurn,e1.Up,e1.Left,e1.Num,e1.Under.Kind,e1.Under.Entry.Addr,e1.Under.Entry.Len,e1.Under.Entry.Cost,e1.Under.Entry.Label,e1.Told,e1.All,e1.Got,e1.Full,x9,x10))
def F80 (e1:Ud):Ud :=
 bif (!(F76 e1)) then (⟨0,0,[],0,[],0,0,0,false,0,0,(⟨0,(⟨0,0,0,0⟩:Ue)⟩:HelloChange),[],false,0,false,[],0⟩:Ud) else ((F80_j0 e1).fin (fun r=>r) (fun (x9,x10)=>(F80_j1 e1 x9 x10).fin (fun r=>r) (fun (x11,x12,x13,x14,x15,x16,x17,x18,x19,x20,x21,x22,x23,x24,x25,x26,x27,x28,x29,x30,x31,x32)=>(⟨x11,x12,x13,x14,x15,x16,x17,x18,x19,x20,x21,(⟨x22,(⟨x23,x24,x25,x26⟩:Ue)⟩:HelloChange),x27,x28,x29,x30,x31,x32⟩:Ud))))
abbrev jI80_0 (e1:Ud) (x9:List Uf) (x10:Int):Prop:=x9.length<=1000000000/\True
abbrev jJ80_0 (e1:Ud) (j:List Uf×Int):Prop:=(F80_j0 e1)=Lp.done j/\jI80_0 e1 j.1 j.2
theorem jn80_0 (e1:Ud) (x9:List Uf) (x10:Int) (e:(F80_j0 e1)=Lp.done (x9,x10)) (h:jI80_0 e1 x9 x10):∃ j:List Uf×Int,((.int .i64 0:Value)=.int .i64 0)/\((.int .i64 0:Value)=.int .i64 0)/\((.slice none 0 0:Value)=.slice none 0 0)/\((.int .i64 0:Value)=.int .i64 0)/\((.slice none 0 0:Value)=.slice none 0 0)/\((.int .i64 0:Value)=.int .i64 0)/\((.int .i64 0:Value)=.int .i64 0)/\((.int .i64 0:Value)=.int .i64 0)/\((.bool false:Value)=.bool false)/\((.int .i64 0:Value)=.int .i64 0)/\((.int .i64 0:Value)=.int .i64 0)/\((.int .i64 0:Value)=.int .i64 0)/\((.int .i64 0:Value)=.int .i64 0)/\((.int .i64 0:Value)=.int .i64 0)/\((.int .i64 0:Value)=.int .i64 0)/\((.int .i64 0:Value)=.int .i64 0)/\((.slice none 0 0:Value)=.slice none 0 0)/\((.bool false:Value)=.bool false)/\((.int .i64 0:Value)=.int .i64 0)/\((.bool false:Value)=.bool false)/\((.slice none 0 0:Value)=.slice none 0 0)/\((.int .i64 0:Value)=.int .i64 0)/\((.int .i64 e1.Name:Value)=.int .i64 e1.Name)/\((.int .i64 e1.Peer:Value)=.int .i64 e1.Peer)/\((.int .i64 e1.Boot:Value)=.int .i64 e1.Boot)/\((.int .i64 e1.Turn:Value)=.int .i64 e1.Turn)/\((.int .i64 e1.PeerBoot:Value)=.int .i64 e1.PeerBoot)/\((.int .i64 e1.PeerTurn:Value)=.int .i64 e1.PeerTurn)/\((.bool e1.Up:Value)=.bool e1.Up)/\((.int .i64 e1.Left:Value)=.int .i64 e1.Left)/\((.int .i64 e1.Num:Value)=.int .i64 e1.Num)/\((.int .i64 e1.Under.Kind:Value)=.int .i64 e1.Under.Kind)/\((.int .i64 e1.Under.Entry.Addr:Value)=.int .i64 e1.Under.Entry.Addr)/\((.int .i64 e1.Under.Entry.Len:Value)=.int .i64 e1.Under.Entry.Len)/\((.int .i64 e1.Under.Entry.Cost:Value)=.int .i64 e1.Under.Entry.Cost)/\((.int .i64 e1.Under.Entry.Label:Value)=.int .i64 e1.Under.Entry.Label)/\((.bool e1.All:Value)=.bool e1.All)/\((.int .i64 e1.Got:Value)=.int .i64 e1.Got)/\((.bool e1.Full:Value)=.bool e1.Full)/\((.int .i64 x10:Value)=.int .i64 j.2)/\(Imp (.l 2 eHelloKey e1.Keys) (.l 2 eHelloKey e1.Keys))/\(Imp (.l 4 eHelloEntry e1.Want) (.l 4 eHelloEntry e1.Want))/\(Imp (.l 4 eHelloEntry e1.Told) (.l 4 eHelloEntry e1.Told))/\(Imp (.l 5 eHelloRoute x9) (.l 5 eHelloRoute j.1))/\jJ80_0 e1 j:=⟨(x9,x10),rfl,rfl,rfl,rfl,rfl,rfl,rfl,rfl,rfl,rfl,rfl,rfl,rfl,rfl,rfl,rfl,rfl,rfl,rfl,rfl,rfl,rfl,rfl,rfl,rfl,rfl,rfl,rfl,rfl,rfl,rfl,rfl,rfl,rfl,rfl,rfl,rfl,rfl,rfl,rfl,Imp.refl _,Imp.refl _,Imp.refl _,Imp.refl _,e,h⟩
abbrev jI80_1 (e1:Ud) (x9:List Uf) (x10:Int) (x11:Int) (x12:Int) (x13:List HelloKey) (x14:Int) (x15:List Ue) (x16:Int) (x17:Int) (x18:Int) (x19:Bool) (x20:Int) (x21:Int) (x22:Int) (x23:Int) (x24:Int) (x25:Int) (x26:Int) (x27:List Ue) (x28:Bool) (x29:Int) (x30:Bool) (x31:List Uf) (x32:Int):Prop:=x13.length<=1000000000/\x15.length<=1000000000/\x27.length<=1000000000/\x31.length<=1000000000
abbrev jJ80_1 (e1:Ud) (x9:List Uf) (x10:Int) (j:Int×Int×List HelloKey×Int×List Ue×Int×Int×Int×Bool×Int×Int×Int×Int×Int×Int×Int×List Ue×Bool×Int×Bool×List Uf×Int):Prop:=(F80_j1 e1 x9 x10)=Lp.done j/\jI80_1 e1 x9 x10 j.1 j.2.1 j.2.2.1 j.2.2.2.1 j.2.2.2.2.1 j.2.2.2.2.2.1 j.2.2.2.2.2.2.1 j.2.2.2.2.2.2.2.1 j.2.2.2.2.2.2.2.2.1 j.2.2.2.2.2.2.2.2.2.1 j.2.2.2.2.2.2.2.2.2.2.1 j.2.2.2.2.2.2.2.2.2.2.2.1 j.2.2.2.2.2.2.2.2.2.2.2.2.1 j.2.2.2.2.2.2.2.2.2.2.2.2.2.1 j.2.2.2.2.2.2.2.2.2.2.2.2.2.2.1 j.2.2.2.2.2.2.2.2.2.2.2.2.2.2.2.1 j.2.2.2.2.2.2.2.2.2.2.2.2.2.2.2.2.1 j.2.2.2.2.2.2.2.2.2.2.2.2.2.2.2.2.2.1 j.2.2.2.2.2.2.2.2.2.2.2.2.2.2.2.2.2.2.1 j.2.2.2.2.2.2.2.2.2.2.2.2.2.2.2.2.2.2.2.1 j.2.2.2.2.2.2.2.2.2.2.2.2.2.2.2.2.2.2.2.2.1 j.2.2.2.2.2.2.2.2.2.2.2.2.2.2.2.2.2.2.2.2.2
theorem jn80_1 (e1:Ud) (x9:List Uf) (x10:Int) (x11:Int) (x12:Int) (x13:List HelloKey) (x14:Int) (x15:List Ue) (x16:Int) (x17:Int) (x18:Int) (x19:Bool) (x20:Int) (x21:Int) (x22:Int) (x23:Int) (x24:Int) (x25:Int) (x26:Int) (x27:List Ue) (x28:Bool) (x29:Int) (x30:Bool) (x31:List Uf) (x32:Int) (e:(F80_j1 e1 x9 x10)=Lp.done (x11,x12,x13,x14,x15,x16,x17,x18,x19,x20,x21,x22,x23,x24,x25,x26,x27,x28,x29,x30,x31,x32)) (h:jI80_1 e1 x9 x10 x11 x12 x13 x14 x15 x16 x17 x18 x19 x20 x21 x22 x23 x24 x25 x26 x27 x28 x29 x30 x31 x32):∃ j:Int×Int×List HelloKey×Int×List Ue×Int×Int×Int×Bool×Int×Int×Int×Int×Int×Int×Int×List Ue×Bool×Int×Bool×List Uf×Int,((.int .i64 0:Value)=.int .i64 0)/\((.int .i64 0:Value)=.int .i64 0)/\((.slice none 0 0:Value)=.slice none 0 0)/\((.int .i64 0:Value)=.int .i64 0)/\((.slice none 0 0:Value)=.slice none 0 0)/\((.int .i64 0:Value)=.int .i64 0)/\((.int .i64 0:Value)=.int .i64 0)/\((.int .i64 0:Value)=.int .i64 0)/\((.bool false:Value)=.bool false)/\((.int .i64 0:Value)=.int .i64 0)/\((.int .i64 0:Value)=.int .i64 0)/\((.int .i64 0:Value)=.int .i64 0)/\((.int .i64 0:Value)=.int .i64 0)/\((.int .i64 0:Value)=.int .i64 0)/\((.int .i64 0:Value)=.int .i64 0)/\((.int .i64 0:Value)=.int .i64 0)/\((.slice none 0 0:Value)=.slice none 0 0)/\((.bool false:Value)=.bool false)/\((.int .i64 0:Value)=.int .i64 0)/\((.bool false:Value)=.bool false)/\((.slice none 0 0:Value)=.slice none 0 0)/\((.int .i64 0:Value)=.int .i64 0)/\((.int .i64 x11:Value)=.int .i64 j.1)/\((.int .i64 x12:Value)=.int .i64 j.2.1)/\((.int .i64 x14:Value)=.int .i64 j.2.2.2.1)/\((.int .i64 x16:Value)=.int .i64 j.2.2.2.2.2.1)/\((.int .i64 x17:Value)=.int .i64 j.2.2.2.2.2.2.1)/\((.int .i64 x18:Value)=.int .i64 j.2.2.2.2.2.2.2.1)/\((.bool x19:Value)=.bool j.2.2.2.2.2.2.2.2.1)/\((.int .i64 x20:Value)=.int .i64 j.2.2.2.2.2.2.2.2.2.1)/\((.int .i64 x21:Value)=.int .i64 j.2.2.2.2.2.2.2.2.2.2.1)/\((.int .i64 x22:Value)=.int .i64 j.2.2.2.2.2.2.2.2.2.2.2.1)/\((.int .i64 x23:Value)=.int .i64 j.2.2.2.2.2.2.2.2.2.2.2.2.1)/\((.int .i64 x24:Value)=.int .i64 j.2.2.2.2.2.2.2.2.2.2.2.2.2.1)/\((.int .i64 x25:Value)=.int .i64 j.2.2.2.2.2.2.2.2.2.2.2.2.2.2.1)/\((.int .i64 x26:Value)=.int .i64 j.2.2.2.2.2.2.2.2.2.2.2.2.2.2.2.1)/\((.bool x28:Value)=.bool j.2.2.2.2.2.2.2.2.2.2.2.2.2.2.2.2.2.1)/\((.int .i64 x29:Value)=.int .i64 j.2.2.2.2.2.2.2.2.2.2.2.2.2.2.2.2.2.2.1)/\((.bool x30:Value)=.bool j.2.2.2.2.2.2.2.2.2.2.2.2.2.2.2.2.2.2.2.1)/\((.int .i64 x32:Value)=.int .i64 j.2.2.2.2.2.2.2.2.2.2.2.2.2.2.2.2.2.2.2.2.2)/\(Imp (.l 2 eHelloKey x13) (.l 2 eHelloKey j.2.2.1))/\(Imp (.l 4 eHelloEntry x15) (.l 4 eHelloEntry j.2.2.2.2.1))/\(Imp (.l 4 eHelloEntry x27) (.l 4 eHelloEntry j.2.2.2.2.2.2.2.2.2.2.2.2.2.2.2.2.1))/\(Imp (.l 5 eHelloRoute x31) (.l 5 eHelloRoute j.2.2.2.2.2.2.2.2.2.2.2.2.2.2.2.2.2.2.2.2.1))/\jJ80_1 e1 x9 x10 j:=⟨(x11,x12,x13,x14,x15,x16,x17,x18,x19,x20,x21,x22,x23,x24,x25,x26,x27,x28,x29,x30,x31,x32),rfl,rfl,rfl,rfl,rfl,rfl,rfl,rfl,rfl,rfl,rfl,rfl,rfl,rfl,rfl,rfl,rfl,rfl,rfl,rfl,rfl,rfl,rfl,rfl,rfl,rfl,rfl,rfl,rfl,rfl,rfl,rfl,rfl,rfl,rfl,rfl,rfl,rfl,rfl,rfl,Imp.refl _,Imp.refl _,Imp.refl _,Imp.refl _,e,h⟩
theorem fi80 (e1:Ud) (r:Ud) (hF:r=(F80 e1)):((.int .i64 r.Name:Value)=.int .i64 (F80 e1).Name)/\((.int .i64 r.Peer:Value)=.int .i64 (F80 e1).Peer)/\(Imp (.l 2 eHelloKey r.Keys) (.l 2 eHelloKey (F80 e1).Keys))/\((.int .i64 r.Boot:Value)=.int .i64 (F80 e1).Boot)/\(Imp (.l 4 eHelloEntry r.Want) (.l 4 eHelloEntry (F80 e1).Want))/\((.int .i64 r.Turn:Value)=.int .i64 (F80 e1).Turn)/\((.int .i64 r.PeerBoot:Value)=.int .i64 (F80 e1).PeerBoot)/\((.int .i64 r.PeerTurn:Value)=.int .i64 (F80 e1).PeerTurn)/\((.bool r.Up:Value)=.bool (F80 e1).Up)/\((.int .i64 r.Left:Value)=.int .i64 (F80 e1).Left)/\((.int .i64 r.Num:Value)=.int .i64 (F80 e1).Num)/\((.int .i64 r.Under.Kind:Value)=.int .i64 (F80 e1).Under.Kind)/\((.int .i64 r.Under.Entry.Addr:Value)=.int .i64 (F80 e1).Under.Entry.Addr)/\((.int .i64 r.Under.Entry.Len:Value)=.int .i64 (F80 e1).Under.Entry.Len)/\((.int .i64 r.Under.Entry.Cost:Value)=.int .i64 (F80 e1).Under.Entry.Cost)/\((.int .i64 r.Under.Entry.Label:Value)=.int .i64 (F80 e1).Under.Entry.Label)/\(Imp (.l 4 eHelloEntry r.Told) (.l 4 eHelloEntry (F80 e1).Told))/\((.bool r.All:Value)=.bool (F80 e1).All)/\((.int .i64 r.Got:Value)=.int .i64 (F80 e1).Got)/\((.bool r.Full:Value)=.bool (F80 e1).Full)/\(Imp (.l 5 eHelloRoute r.Heard) (.l 5 eHelloRoute (F80 e1).Heard))/\((.int .i64 r.Keep:Value)=.int .i64 (F80 e1).Keep)/\True:=by cases hF; exact ⟨rfl,rfl,Imp.refl _,rfl,Imp.refl _,rfl,rfl,rfl,rfl,rfl,rfl,rfl,rfl,rfl,rfl,rfl,Imp.refl _,rfl,rfl,rfl,Imp.refl _,rfl,trivial⟩
def S80 (e1:Ud):Spec:=⟨[.r (.g (eHelloEnd e1))],.ag [.v (vI (F80 e1).Name),.v (vI (F80 e1).Peer),.ow (.l 2 eHelloKey (F80 e1).Keys),.v (vI (F80 e1).Boot),.ow (.l 4 eHelloEntry (F80 e1).Want),.v (vI (F80 e1).Turn),.v (vI (F80 e1).PeerBoot),.v (vI (F80 e1).PeerTurn),.v (.bool (F80 e1).Up),.v (vI (F80 e1).Left),.v (vI (F80 e1).Num),.v (vI (F80 e1).Under.Kind),.v (vI (F80 e1).Under.Entry.Addr),.v (vI (F80 e1).Under.Entry.Len),.v (vI (F80 e1).Under.Entry.Cost),.v (vI (F80 e1).Under.Entry.Label),.ow (.l 4 eHelloEntry (F80 e1).Told),.v (.bool (F80 e1).All),.v (vI (F80 e1).Got),.v (.bool (F80 e1).Full),.ow (.l 5 eHelloRoute (F80 e1).Heard),.v (vI (F80 e1).Keep)],True⟩
abbrev q80_1 (e1:Ud) (x9:List Uf) (x10:Int):=(⟨e1.Name,e1.Peer,e1.Keys,e1.Boot,e1.Want,e1.Turn,e1.PeerBoot,e1.PeerTurn,e1.Up,(e1.Left-1),e1.Num,e1.Under,e1.Told,e1.All,e1.Got,e1.Full,x9,x10⟩:Ud)
abbrev q80_2 (x22:Int) (x23:Int) (x24:Int) (x25:Int) (x26:Int):=(⟨x22,(⟨x23,x24,x25,x26⟩:Ue)⟩:HelloChange)
theorem ok80 (e1:Ud):(S80 e1).ok Try.prog 80 :=
 fnG_ok mixed (fn:=Try.f80) (ct:=.seq .no (.seq (.seq (.reg [(1,kh76l e1)]) (.cond (.seq .no .no) .no)) (.seq (.reg [(1,kh63a e1)]) (.cut (ι:=List Uf×Int) (fun j=>(fun (x9:List Uf) (x10:Int)=>(⟨[(2,some (.p 0 0)),(3,some (.p 1 0))],[(0,some (.box 54 [.v (vI 0),.v (vI 0),.v (.slice none 0 0),.v (vI 0),.v (.slice none 0 0),.v (vI 0),.v (vI 0),.v (vI 0),.v (.bool false),.v (vI 0),.v (vI 0),.v (vI 0),.v (vI 0),.v (vI 0),.v (vI 0),.v (vI 0),.v (.slice none 0 0),.v (.bool false),.v (vI 0),.v (.bool false),.v (.slice none 0 0),.v (vI 0)])),(1,some (.box 54 [.v (vI e1.Name),.v (vI e1.Peer),.h 2 0,.v (vI e1.Boot),.h 3 0,.v (vI e1.Turn),.v (vI e1.PeerBoot),.v (vI e1.PeerTurn),.v (.bool e1.Up),.v (vI e1.Left),.v (vI e1.Num),.v (vI e1.Under.Kind),.v (vI e1.Under.Entry.Addr),.v (vI e1.Under.Entry.Len),.v (vI e1.Under.Entry.Cost),.v (vI e1.Under.Entry.Label),.h 4 0,.v (.bool e1.All),.v (vI e1.Got),.v (.bool e1.Full),.h 5 0,.v (vI x10)])),(2,some (.own 2 (.l 2 eHelloKey e1.Keys))),(3,some (.own 3 (.l 4 eHelloEntry e1.Want))),(4,some (.own 4 (.l 4 eHelloEntry e1.Told))),(5,some (.own 5 (.l 5 eHelloRoute x9)))],6⟩:St)) j.1 j.2) (jJ80_0 e1) (.seq .no (.cond (.seq (.reg [(2,.bnd)]) (.seq .no (.cond (.reg [(2,kh88l e1.Heard)]) .no))) .no)) (fun j=>(fun (x9:List Uf) (x10:Int)=>(.cut (ι:=Int×Int×List HelloKey×Int×List Ue×Int×Int×Int×Bool×Int×Int×Int×Int×Int×Int×Int×List Ue×Bool×Int×Bool×List Uf×Int) (fun j=>(fun (x11:Int) (x12:Int) (x13:List HelloKey) (x14:Int) (x15:List Ue) (x16:Int) (x17:Int) (x18:Int) (x19:Bool) (x20:Int) (x21:Int) (x22:Int) (x23:Int) (x24:Int) (x25:Int) (x26:Int) (x27:List Ue) (x28:Bool) (x29:Int) (x30:Bool) (x31:List Uf) (x32:Int)=>(⟨[(2,some (.p 0 0)),(3,some (.p 1 0))],[(0,some (.box 54 [.v (vI 0),.v (vI 0),.v (.slice none 0 0),.v (vI 0),.v (.slice none 0 0),.v (vI 0),.v (vI 0),.v (vI 0),.v (.bool false),.v (vI 0),.v (vI 0),.v (vI 0),.v (vI 0),.v (vI 0),.v (vI 0),.v (vI 0),.v (.slice none 0 0),.v (.bool false),.v (vI 0),.v (.bool false),.v (.slice none 0 0),.v (vI 0)])),(1,some (.box 54 [.v (vI x11),.v (vI x12),.h 2 0,.v (vI x14),.h 3 0,.v (vI x16),.v (vI x17),.v (vI x18),.v (.bool x19),.v (vI x20),.v (vI x21),.v (vI x22),.v (vI x23),.v (vI x24),.v (vI x25),.v (vI x26),.h 4 0,.v (.bool x28),.v (vI x29),.v (.bool x30),.h 5 0,.v (vI x32)])),(2,some (.own 2 (.l 2 eHelloKey x13))),(3,some (.own 3 (.l 4 eHelloEntry x15))),(4,some (.own 4 (.l 4 eHelloEntry x27))),(5,some (.own 5 (.l 5 eHelloRoute x31)))],6⟩:St)) j.1 j.2.1 j.2.2.1 j.2.2.2.1 j.2.2.2.2.1 j.2.2.2.2.2.1 j.2.2.2.2.2.2.1 j.2.2.2.2.2.2.2.1 j.2.2.2.2.2.2.2.2.1 j.2.2.2.2.2.2.2.2.2.1 j.2.2.2.2.2.2.2.2.2.2.1 j.2.2.2.2.2.2.2.2.2.2.2.1 j.2.2.2.2.2.2.2.2.2.2.2.2.1 j.2.2.2.2.2.2.2.2.2.2.2.2.2.1 j.2.2.2.2.2.2.2.2.2.2.2.2.2.2.1 j.2.2.2.2.2.2.2.2.2.2.2.2.2.2.2.1 j.2.2.2.2.2.2.2.2.2.2.2.2.2.2.2.2.1 j.2.2.2.2.2.2.2.2.2.2.2.2.2.2.2.2.2.1 j.2.2.2.2.2.2.2.2.2.2.2.2.2.2.2.2.2.2.1 j.2.2.2.2.2.2.2.2.2.2.2.2.2.2.2.2.2.2.2.1 j.2.2.2.2.2.2.2.2.2.2.2.2.2.2.2.2.2.2.2.2.1 j.2.2.2.2.2.2.2.2.2.2.2.2.2.2.2.2.2.2.2.2.2) (jJ80_1 e1 x9 x10) (.seq .no (.cond (.seq (.reg [(2,.bnd)]) (.seq .no (.cond (.reg [(1,.call 82 (S82 (q80_1 e1 x9 x10)) (ok82 (q80_1 e1 x9 x10)) none)]) .no))) .no)) (fun j=>(fun (x11:Int) (x12:Int) (x13:List HelloKey) (x14:Int) (x15:List Ue) (x16:Int) (x17:Int) (x18:Int) (x19:Bool) (x20:Int) (x21:Int) (x22:Int) (x23:Int) (x24:Int) (x25:Int) (x26:Int) (x27:List Ue) (x28:Bool) (x29:Int) (x30:Bool) (x31:List Uf) (x32:Int)=>(.seq (.reg [(1,.call 63 (S63 (⟨x11,x12,x13,x14,x15,x16,x17,x18,x19,x20,x21,(q80_2 x22 x23 x24 x25 x26),x27,x28,x29,x30,x31,x32⟩:Ud) (⟨x11,x12,x13,x14,x15,x16,x17,x18,x19,x20,x21,(q80_2 x22 x23 x24 x25 x26),x27,x28,x29,x30,x31,x32⟩:Ud)) (oa63 (⟨x11,x12,x13,x14,x15,x16,x17,x18,x19,x20,x21,(q80_2 x22 x23 x24 x25 x26),x27,x28,x29,x30,x31,x32⟩:Ud)) none)]) .no)) j.1 j.2.1 j.2.2.1 j.2.2.2.1 j.2.2.2.2.1 j.2.2.2.2.2.1 j.2.2.2.2.2.2.1 j.2.2.2.2.2.2.2.1 j.2.2.2.2.2.2.2.2.1 j.2.2.2.2.2.2.2.2.2.1 j.2.2.2.2.2.2.2.2.2.2.1 j.2.2.2.2.2.2.2.2.2.2.2.1 j.2.2.2.2.2.2.2.2.2.2.2.2.1 j.2.2.2.2.2.2.2.2.2.2.2.2.2.1 j.2.2.2.2.2.2.2.2.2.2.2.2.2.2.1 j.2.2.2.2.2.2.2.2.2.2.2.2.2.2.2.1 j.2.2.2.2.2.2.2.2.2.2.2.2.2.2.2.2.1 j.2.2.2.2.2.2.2.2.2.2.2.2.2.2.2.2.2.1 j.2.2.2.2.2.2.2.2.2.2.2.2.2.2.2.2.2.2.1 j.2.2.2.2.2.2.2.2.2.2.2.2.2.2.2.2.2.2.2.1 j.2.2.2.2.2.2.2.2.2.2.2.2.2.2.2.2.2.2.2.2.1 j.2.2.2.2.2.2.2.2.2.2.2.2.2.2.2.2.2.2.2.2.2))) j.1 j.2))))) Try.func80 (fun (_:True)=>kc76l e1 (ifb (!(F76 e1)) (fun h1=>(fun hF:((⟨0,0,[],0,[],0,0,0,false,0,0,(⟨0,(⟨0,0,0,0⟩:Ue)⟩:HelloChange),[],false,0,false,[],0⟩:Ud):Ud)=(F80 e1)=>ai (Qa (fun r:Ud=>(.int .i64 r.Name:Value)) hF) (ai (Qa (fun r:Ud=>(.int .i64 r.Peer:Value)) hF) (ai ((Imp.nil 2 eHelloKey).trans (Imp.of_eq (Qa (fun r:Ud=>Dat.l 2 eHelloKey r.Keys) hF))) (ai (Qa (fun r:Ud=>(.int .i64 r.Boot:Value)) hF) (ai ((Imp.nil 4 eHelloEntry).trans (Imp.of_eq (Qa (fun r:Ud=>Dat.l 4 eHelloEntry r.Want) hF))) (ai (Qa (fun r:Ud=>(.int .i64 r.Turn:Value)) hF) (ai (Qa (fun r:Ud=>(.int .i64 r.PeerBoot:Value)) hF) (ai (Qa (fun r:Ud=>(.int .i64 r.PeerTurn:Value)) hF) (ai (Qa (fun r:Ud=>(.bool r.Up:Value)) hF) (ai (Qa (fun r:Ud=>(.int .i64 r.Left:Value)) hF) (ai (Qa (fun r:Ud=>(.int .i64 r.Num:Value)) hF) (ai (Qa (fun r:Ud=>(.int .i64 r.Under.Kind:Value)) hF) (ai (Qa (fun r:Ud=>(.int .i64 r.Under.Entry.Addr:Value)) hF) (ai (Qa (fun r:Ud=>(.int .i64 r.Under.Entry.Len:Value)) hF) (ai (Qa (fun r:Ud=>(.int .i64 r.Under.Entry.Cost:Value)) hF) (ai (Qa (fun r:Ud=>(.int .i64 r.Under.Entry.Label:Value)) hF) (ai ((Imp.nil 4 eHelloEntry).trans (Imp.of_eq (Qa (fun r:Ud=>Dat.l 4 eHelloEntry r.Told) hF))) (ai (Qa (fun r:Ud=>(.bool r.All:Value)) hF) (ai (Qa (fun r:Ud=>(.int .i64 r.Got:Value)) hF) (ai (Qa (fun r:Ud=>(.bool r.Full:Value)) hF) (ai ((Imp.nil 5 eHelloRoute).trans (Imp.of_eq (Qa (fun r:Ud=>Dat.l 5 eHelloRoute r.Heard) hF))) (ai (Qa (fun r:Ud=>(.int .i64 r.Keep:Value)) hF) trivial)))))))))))))))))))))) (condT h1 rfl)) (fun h1=>have _:1<=e1.Keys.length/\e1.Keys.length<=3/\e1.Want.length<=8/\e1.Told.length<=8/\e1.Heard.length<=16:=endOkS_T e1 (notEF h1); have _:EndFit e1:=endFitS e1 (notEF h1); have _:0<=e1.Keep/\e1.Keep<=6/\0<=e1.Left/\e1.Left<=4:=endKeep e1 (notEF h1); kc63a e1 uu17 (ai (ifd (e1.Keep>0) (fun h2 _=>ai (iok (e1.Keep-1) uu0) (ife (e1.Keep-1) 0 (fun h3 _=>kc88l e1.Heard uu18 uu18 (fun gv4=>jn80_0 e1 (F88 e1.Heard) (e1.Keep-1) (Q5 (condT h2 (condT h3 rfl))) uu28)) (fun h3 _=>jn80_0 e1 e1.Heard (e1.Keep-1) (Q5 (condT h2 (condF h3 rfl))) uu28))) (fun h2 _=>jn80_0 e1 e1.Heard e1.Keep (Q5 (condF h2 rfl)) uu28)) (fun (j:List Uf×Int) (hj:jJ80_0 e1 j)=>(fun (x9:List Uf) (x10:Int) (hJ0_5:(F80_j0 e1)=Lp.done (x9,x10)) (hw:jI80_0 e1 x9 x10)=>have _:=hw.1; ai (ifd (e1.Left>0) (fun h6 _=>ai (iok (e1.Left-1) uu0) (ife (e1.Left-1) 0 (fun h7 _=>ai trivial (ai (Imps.refl (eHelloEnd (q80_1 e1 x9 x10))) (have gv8:smallE (F82 (q80_1 e1 x9 x10)):=life_small (q80_1 e1 x9 x10) (uu17:smallE (q80_1 e1 x9 x10)); jn80_1 e1 x9 x10 (F82 (q80_1 e1 x9 x10)).Name (F82 (q80_1 e1 x9 x10)).Peer (F82 (q80_1 e1 x9 x10)).Keys (F82 (q80_1 e1 x9 x10)).Boot (F82 (q80_1 e1 x9 x10)).Want (F82 (q80_1 e1 x9 x10)).Turn (F82 (q80_1 e1 x9 x10)).PeerBoot (F82 (q80_1 e1 x9 x10)).PeerTurn (F82 (q80_1 e1 x9 x10)).Up (F82 (q80_1 e1 x9 x10)).Left (F82 (q80_1 e1 x9 x10)).Num (F82 (q80_1 e1 x9 x10)).Under.Kind (F82 (q80_1 e1 x9 x10)).Under.Entry.Addr (F82 (q80_1 e1 x9 x10)).Under.Entry.Len (F82 (q80_1 e1 x9 x10)).Under.Entry.Cost (F82 (q80_1 e1 x9 x10)).Under.Entry.Label (F82 (q80_1 e1 x9 x10)).Told (F82 (q80_1 e1 x9 x10)).All (F82 (q80_1 e1 x9 x10)).Got (F82 (q80_1 e1 x9 x10)).Full (F82 (q80_1 e1 x9 x10)).Heard (F82 (q80_1 e1 x9 x10)).Keep (Q5 (condT h6 (condT h7 rfl))) uu29))) (fun h7 _=>jn80_1 e1 x9 x10 e1.Name e1.Peer e1.Keys e1.Boot e1.Want e1.Turn e1.PeerBoot e1.PeerTurn e1.Up (e1.Left-1) e1.Num e1.Under.Kind e1.Under.Entry.Addr e1.Under.Entry.Len e1.Under.Entry.Cost e1.Under.Entry.Label e1.Told e1.All e1.Got e1.Full x9 x10 (Q5 (condT h6 (condF h7 rfl))) uu29))) (fun h6 _=>jn80_1 e1 x9 x10 e1.Name e1.Peer e1.Keys e1.Boot e1.Want e1.Turn e1.PeerBoot e1.PeerTurn e1.Up e1.Left e1.Num e1.Under.Kind e1.Under.Entry.Addr e1.Under.Entry.Len e1.Under.Entry.Cost e1.Under.Entry.Label e1.Told e1.All e1.Got e1.Full x9 x10 (Q5 (condF h6 rfl)) uu29)) (fun (j:Int×Int×List HelloKey×Int×List Ue×Int×Int×Int×Bool×Int×Int×Int×Int×Int×Int×Int×List Ue×Bool×Int×Bool×List Uf×Int) (hj:jJ80_1 e1 x9 x10 j)=>(fun (x11:Int) (x12:Int) (x13:List HelloKey) (x14:Int) (x15:List Ue) (x16:Int) (x17:Int) (x18:Int) (x19:Bool) (x20:Int) (x21:Int) (x22:Int) (x23:Int) (x24:Int) (x25:Int) (x26:Int) (x27:List Ue) (x28:Bool) (x29:Int) (x30:Bool) (x31:List Uf) (x32:Int) (hJ1_9:(F80_j1 e1 x9 x10)=Lp.done (x11,x12,x13,x14,x15,x16,x17,x18,x19,x20,x21,x22,x23,x24,x25,x26,x27,x28,x29,x30,x31,x32)) (hw:jI80_1 e1 x9 x10 x11 x12 x13 x14 x15 x16 x17 x18 x19 x20 x21 x22 x23 x24 x25 x26 x27 x28 x29 x30 x31 x32)=>have _:=hw.1; have _:=hw.2.1; have _:=hw.2.2.1; have _:=hw.2.2.2; ai (uu17:smallE (⟨x11,x12,x13,x14,x15,x16,x17,x18,x19,x20,x21,(q80_2 x22 x23 x24 x25 x26),x27,x28,x29,x30,x31,x32⟩:Ud)) (ai (Imps.refl (eHelloEnd (⟨x11,x12,x13,x14,x15,x16,x17,x18,x19,x20,x21,(q80_2 x22 x23 x24 x25 x26),x27,x28,x29,x30,x31,x32⟩:Ud))) (fi80 e1 (⟨x11,x12,x13,x14,x15,x16,x17,x18,x19,x20,x21,(q80_2 x22 x23 x24 x25 x26),x27,x28,x29,x30,x31,x32⟩:Ud) (condF h1 (finD hJ0_5 (finD hJ1_9 rfl)))))) j.1 j.2.1 j.2.2.1 j.2.2.2.1 j.2.2.2.2.1 j.2.2.2.2.2.1 j.2.2.2.2.2.2.1 j.2.2.2.2.2.2.2.1 j.2.2.2.2.2.2.2.2.1 j.2.2.2.2.2.2.2.2.2.1 j.2.2.2.2.2.2.2.2.2.2.1 j.2.2.2.2.2.2.2.2.2.2.2.1 j.2.2.2.2.2.2.2.2.2.2.2.2.1 j.2.2.2.2.2.2.2.2.2.2.2.2.2.1 j.2.2.2.2.2.2.2.2.2.2.2.2.2.2.1 j.2.2.2.2.2.2.2.2.2.2.2.2.2.2.2.1 j.2.2.2.2.2.2.2.2.2.2.2.2.2.2.2.2.1 j.2.2.2.2.2.2.2.2.2.2.2.2.2.2.2.2.2.1 j.2.2.2.2.2.2.2.2.2.2.2.2.2.2.2.2.2.2.1 j.2.2.2.2.2.2.2.2.2.2.2.2.2.2.2.2.2.2.2.1 j.2.2.2.2.2.2.2.2.2.2.2.2.2.2.2.2.2.2.2.2.1 j.2.2.2.2.2.2.2.2.2.2.2.2.2.2.2.2.2.2.2.2.2 hj.1 hj.2)) j.1 j.2 hj.1 hj.2))))) uu3
theorem kg12 {K_:Prop} (c_ b_:Bool) (w1:HelloWord) (k_:K_):(c_=b_->True)/\(c_=b_->Imps (eHelloWord w1) (eHelloWord w1))/\K_:=⟨fun _=>trivial,fun _=>Imps.refl _,k_⟩
theorem kc38 (secret:Int) (w1:HelloWord) {K_:Prop} (k_:K_):(True)/\(Imp (.v (vI secret)) (.v (vI secret)))/\(Imps (eHelloWord w1) (eHelloWord w1))/\K_:=⟨trivial,Imp.refl _,Imps.refl _,k_⟩
abbrev kh38 (secret:Int) (w1:HelloWord):Hint true Try.prog:=.call 38 (S38 secret w1) (ok38 secret w1) none
def F15_s0 (keys:List HelloKey) (w1:HelloWord):Int->Lp Int Bool:=fun i40 =>
 bif (decide (i40<(keys.length:Int))) then (bif ((keys.getD i40.toNat default).Id==w1.Key) then (.ret ((F38 (keys.getD i40.toNat default).Secret w1)==w1.Sum)) else (.next (i40+1))) else (.done i40)
def F15 (keys:List HelloKey) (w1:HelloWord):Bool :=
 bif (bif (!(F10 keys)) then true else (!(F12 w1))) then false else ((runL (F15_s0 keys w1) (((keys.length:Int)-0).toNat+1) 0).fin (fun r=>r) (fun i40=>false))
abbrev lN15_0 (keys:List HelloKey):Nat×Int:=((((keys.length:Int)-0).toNat+1),0)
abbrev lI15_0 (keys:List HelloKey) (m39:Nat) (i40:Int):Prop:=Int.toNat ((keys.length:Int)-i40)<m39/\(0:Int)<=i40
abbrev lX15_0 (keys:List HelloKey) (w1:HelloWord):Lp Int Bool:=LpX (F15_s0 keys w1) (lN15_0 keys)
abbrev lJ15_0 (keys:List HelloKey) (w1:HelloWord) (i:Nat×Int):Prop:=LpJ (F15_s0 keys w1) (lN15_0 keys) i (lI15_0 keys i.1 i.2)
abbrev lH15_0 (keys:List HelloKey) (w1:HelloWord) (i:Nat×Int) (m39:Nat) (i40:Int):Prop:=LpH (F15_s0 keys w1) (lN15_0 keys) i m39 i40 (lI15_0 keys (m39+1) i40)
abbrev lE15_0 (keys:List HelloKey) (w1:HelloWord) (i40:Int) (i40_:Int) (K39:Prop):Prop:=((.int .i64 i40:Value)=.int .i64 i40_)/\(Im (.l 2 eHelloKey keys))/\(Rf (.int .i64 w1.From))/\(Rf (.int .i64 w1.To))/\(Rf (.int .i64 w1.Key))/\(Rf (.int .i64 w1.Boot))/\(Rf (.int .i64 w1.Yours))/\(Rf (.int .i64 w1.Turn))/\(Rf (.int .i64 w1.Num))/\(Rf (.int .i64 w1.Heard))/\(Rf (.int .i64 w1.Change.Kind))/\(Rf (.int .i64 w1.Change.Entry.Addr))/\(Rf (.int .i64 w1.Change.Entry.Len))/\(Rf (.int .i64 w1.Change.Entry.Cost))/\(Rf (.int .i64 w1.Change.Entry.Label))/\(Rf (.int .i64 w1.Sum))/\K39
theorem un15_0 (keys:List HelloKey) (w1:HelloWord) (i:Nat×Int) (h:lJ15_0 keys w1 i):lH15_0 keys w1 i (i.1-1) i.2:=⟨hd1 h.1 h.2.1,hd3 h.2.1,hd2 h.2.1,h.2.2⟩
theorem bk15_0 (keys:List HelloKey) (w1:HelloWord) (i:Nat×Int) (m39:Nat) (i40:Int) (hl:m39<i.1) (e:runL (F15_s0 keys w1) m39 i40=lX15_0 keys w1) (h:lI15_0 keys m39 i40):∃ j:Nat×Int,lE15_0 keys w1 i40 j.2 (lJ15_0 keys w1 j/\j.1<i.1):=⟨(m39,i40),rfl,Imp.refl _,rfl,rfl,rfl,rfl,rfl,rfl,rfl,rfl,rfl,rfl,rfl,rfl,rfl,rfl,⟨e,h⟩,hl⟩
theorem en15_0 (keys:List HelloKey) (w1:HelloWord) (h:(0:Int)<=0):lE15_0 keys w1 0 0 (lJ15_0 keys w1 (lN15_0 keys)):=⟨rfl,Imp.refl _,rfl,rfl,rfl,rfl,rfl,rfl,rfl,rfl,rfl,rfl,rfl,rfl,rfl,rfl,rfl,Qr _,h⟩
def S15 (keys:List HelloKey) (w1:HelloWord):Spec:=⟨[.r (.c (.l 2 eHelloKey keys)),.r (.g (eHelloWord w1))],.v (.bool (F15 keys w1)),True⟩
theorem ok15 (keys:List HelloKey) (w1:HelloWord):(S15 keys w1).ok Try.prog 15 :=
 fnG_ok mixed (fn:=Try.f15) (ct:=.seqk [(0,0)] .no (.seq (.seq (.reg [(1,kh10l keys),(5,kh12 w1)]) (.cond (.seq .no .no) .no)) (.seq (.seqk [(0,0)] .no (.blk (.loop (ι:=Nat×Int) (fun i=>(fun (i40:Int)=>(⟨[(0,some (.h 0 0)),(3,some (.p 1 0)),(5,some (.v (vI i40)))],[(0,some (.shr none (.l 2 eHelloKey keys))),(1,some (.box 32 [.v (vI w1.From),.v (vI w1.To),.v (vI w1.Key),.v (vI w1.Boot),.v (vI w1.Yours),.v (vI w1.Turn),.v (vI w1.Num),.v (vI w1.Heard),.v (vI w1.Change.Kind),.v (vI w1.Change.Entry.Addr),.v (vI w1.Change.Entry.Len),.v (vI w1.Change.Entry.Cost),.v (vI w1.Change.Entry.Label),.v (vI w1.Sum)]))],2⟩:St)) i.2) (lJ15_0 keys w1) (fun i=>i.1) (lN15_0 keys) (fun i=>(fun (i40:Int)=>(.seq (.seq .no (.cond .no .no)) (.seq (.blk (.seq .no (.cond (.seq (.reg [(6,kh38 (keys.getD i40.toNat default).Secret w1)]) .no) .no))) (.reg [(1,.bnd)])))) i.2)))) (.seq .no .no)))) Try.func15 (fun (_:True)=>kn keys fun _=>kc10l keys (kg12 (!(F10 keys)) false w1 (ifb (bif (!(F10 keys)) then true else (!(F12 w1))) (fun h2=>fiB false (F15 keys w1) (condT h2 rfl)) (fun h2=>have _:1<=keys.length/\keys.length<=3:=keysOkS_T keys (notEF (orF1 h2)); kn keys fun _=>ai (en15_0 keys w1 uu0) (fun (i0:Nat×Int) (hi0:lJ15_0 keys w1 i0)=>(fun (m0:Nat) (i40:Int) (hh0:lH15_0 keys w1 i0 m0 i40)=>have hI0:=hh0.1; have hl0:=hh0.2.1; have _:=hh0.2.2.1; have _:=hh0.2.2.2; ifd (i40<(keys.length:Int)) (fun h4 _=>ai (uu0:ib i40 keys) (ife (keys.getD i40.toNat default).Id w1.Key (fun h5 _=>ai (uu0:ib i40 keys) (kc38 (keys.getD i40.toNat default).Secret w1 (fiB ((F38 (keys.getD i40.toNat default).Secret w1)==w1.Sum) (F15 keys w1) (condF h2 (finR (runL_ret hI0 (condT h4 (condT h5 rfl))) rfl))))) (fun h5 _=>ai (iok (i40+1) uu0) (bk15_0 keys w1 i0 m0 (i40+1) hl0 (runL_next hI0 (condT h4 (condF h5 rfl))) uu10)))) (fun h4 _=>have hD0_6:lX15_0 keys w1=Lp.done i40:=runL_done hI0 (condF h4 rfl); fiB false (F15 keys w1) (condF h2 (finD hD0_6 rfl)))) (i0.1-1) i0.2 (un15_0 keys w1 i0 hi0)))))) uu3
def anewN (e:Ud):Ud:=⟨e.Name,e.Peer,e.Keys,e.Boot,e.Want,e.Turn,e.PeerBoot,e.PeerTurn,false,e.Left,0,⟨0,⟨0,0,0,0⟩⟩,[],false,0,false,e.Heard.map staleR,bif (bif decide ((e.Heard.length:Int)>0) then (e.Keep==0) else false) then 6 else e.Keep⟩
theorem stale_N (e:Ud):F96 e=⟨e.Name,e.Peer,e.Keys,e.Boot,e.Want,e.Turn,e.PeerBoot,e.PeerTurn,e.Up,e.Left,e.Num,e.Under,e.Told,e.All,e.Got,e.Full,e.Heard.map staleR,bif (bif decide ((e.Heard.length:Int)>0) then (e.Keep==0) else false) then 6 else e.Keep⟩:=by
 unfold F96
 rw [lifeS_loop]
 simp only [Lp.fin,Su]
 cases (bif decide ((e.Heard.length:Int)>0) then (e.Keep==0) else false) <;> rfl
theorem anew_N (e:Ud):F89 e=anewN e:=by
 unfold F89
 rw [stale_N]; rfl
theorem apply_zero (t:List Ue):F84 t ⟨0,⟨0,0,0,0⟩⟩=t:=by unfold F84; rfl
theorem change0:F34 ⟨0,⟨0,0,0,0⟩⟩=true:=by rfl
theorem table_nil:F8 []=true:=(tableOk_iff _).2 ⟨by decide,ord_nil⟩
theorem any_stale (l:List Uf):anySt (l.map staleR)=decide (0<l.length):=by
 cases l with
 | nil=>rfl
 | cons a l=>unfold anySt; simp [staleR]
theorem any_iff (l:List Uf):anySt l=true↔∃ r,r∈l/\r.Stale=true:=by unfold anySt; rw [Rv]
structure EB (e:Ud):Prop where
 nm:0<=e.Name/\e.Name<=65535
 pr:0<=e.Peer/\e.Peer<=65535
 ne:e.Name≠e.Peer
 keys:F10 e.Keys=true
 boot:1<=e.Boot/\e.Boot<=1000
 want:F8 e.Want=true
 pb:0<=e.PeerBoot/\e.PeerBoot<=999
 pt:0<=e.PeerTurn/\e.PeerTurn<=1000000
 pp:e.PeerBoot=0↔e.PeerTurn=0
 hlen:e.Heard.length<=16
 keep:0<=e.Keep/\e.Keep<=6
 hord:ROk e.Heard
 hany:anySt e.Heard=decide (e.Keep>0)
theorem EOk.eb {e:Ud} (h:EOk e):EB e :=
 have x:=(heard_iff e).1 h.hd
 ⟨h.nm,h.pr,h.ne,h.keys,h.boot,h.want,h.pb,h.pt,h.pp,x.1,x.2.1,x.2.2.1,x.2.2.2.2⟩
theorem ord_map (l:List Uf) (g:Uf->Uf) (hg:∀ r,(g r).Entry=r.Entry) (h:ROk l):ROk (l.map g):=by
 obtain ⟨h1,h2⟩:=h
 refine ⟨fun r hr=>?_,?_⟩
 ·obtain ⟨q,hq,rfl⟩:=Sd.1 hr
  rw [hg]; exact h1 q hq
 ·rw [List.pairwise_map]
  exact h2.imp fun {a b} hab=>by rw [hg,hg]; exact hab
theorem anew_hd {e:Ud} (h:EB e):(anewN e).Heard.length<=16/\(0<=(anewN e).Keep/\(anewN e).Keep<=6)/\ROk (anewN e).Heard/\(∀ r,r∈(anewN e).Heard->r.Stale=true)/\anySt (anewN e).Heard=decide ((anewN e).Keep>0):=by
 have hl:=h.hlen
 have hk:=h.keep
 refine ⟨by show (e.Heard.map staleR).length<=16; rw [Su]; exact hl,?_,ord_map _ _ (fun _=>rfl) h.hord,fun r hr=>?_,?_⟩
 ·show 0<=(bif (bif decide ((e.Heard.length:Int)>0) then (e.Keep==0) else false) then (6:Int) else e.Keep)/\(bif (bif decide ((e.Heard.length:Int)>0) then (e.Keep==0) else false) then (6:Int) else e.Keep)<=6
  cases (bif decide ((e.Heard.length:Int)>0) then (e.Keep==0) else false) with
  | true=>rw [Qd]; omega
  | false=>exact hk
 ·have hr:r∈e.Heard.map staleR:=hr
  obtain ⟨q,_,rfl⟩:=Sd.1 hr
  rfl
 ·show anySt (e.Heard.map staleR)=decide ((bif (bif decide ((e.Heard.length:Int)>0) then (e.Keep==0) else false) then (6:Int) else e.Keep)>0)
  rw [any_stale]
  by_cases h0:0<e.Heard.length
  ·rw [Qv h0,Qv (uu0:(e.Heard.length:Int)>0),Qd]
   by_cases h1:e.Keep=0
   ·rw [h1]; rfl
   ·rw [beqD,Qw h1,Qj,Qv uu0]
  ·rw [Qw h0,Qw (uu0:¬ (e.Heard.length:Int)>0),Qj,Qj,<- h.hany]
   have:e.Heard=[]:=List.length_eq_zero_iff.1 uu0
   rw [this]; rfl
theorem eok_anew {e:Ud} (h:EB e) (ht:0<=e.Turn/\e.Turn<=1000000) (hl:e.Left=0):EOk (anewN e):=by
 obtain ⟨a1,a2,a3,a4,a5⟩:=anew_hd h
 exact ⟨h.nm,h.pr,h.ne,h.keys,h.boot,h.want,ht,h.pb,h.pt,h.pp,(by show 0<=e.Left/\e.Left<=4; omega),(fun hx=>by have:e.Left>0:=hx; omega),(fun hx=>by cases hx),⟨Int.le_refl 0,ht.1⟩,⟨Int.le_refl 0,by show (0:Int)<=1000000; decide⟩,change0,(fun hx=>absurd hx (by show ¬ ((0:Int)>0); decide)),table_nil,uu37,(heard_iff _).2 ⟨a1,a2,a3,fun _=>a4,a5⟩⟩
theorem life_N (e:Ud) (hb:1<=e.Boot/\e.Boot<=1000):F82 e=anewN ⟨e.Name,e.Peer,e.Keys,(bif decide (e.Boot<1000) then e.Boot+1 else e.Boot),e.Want,0,e.PeerBoot,e.PeerTurn,e.Up,0,e.Num,e.Under,e.Told,e.All,e.Got,e.Full,e.Heard,e.Keep⟩:=by
 unfold F82 F82_j0
 rw [wrap_of uu0 uu0]
 cases decide (e.Boot<1000) <;> exact anew_N _
theorem eok_life {e:Ud} (h:EB e):EOk (F82 e):=by
 rw [life_N e h.boot]
 refine eok_anew ⟨h.nm,h.pr,h.ne,h.keys,?_,h.want,h.pb,h.pt,h.pp,h.hlen,h.keep,h.hord,h.hany⟩ ⟨Int.le_refl 0,by show (0:Int)<=1000000; decide⟩ rfl
 have hb:=h.boot
 show 1<=(bif decide (e.Boot<1000) then e.Boot+1 else e.Boot)/\(bif decide (e.Boot<1000) then e.Boot+1 else e.Boot)<=1000
 by_cases h1:e.Boot<1000
 ·rw [Qv h1,Qd]; omega
 ·rw [Qw h1,Qj]; omega
def heardT (e:Ud):List Uf×Int:=bif decide (e.Keep>0) then (bif (e.Keep-1==0) then (F88 e.Heard,e.Keep-1) else (e.Heard,e.Keep-1)) else (e.Heard,e.Keep)
def tickX (e:Ud) (left:Int):Ud:=⟨e.Name,e.Peer,e.Keys,e.Boot,e.Want,e.Turn,e.PeerBoot,e.PeerTurn,e.Up,left,e.Num,e.Under,e.Told,e.All,e.Got,e.Full,(heardT e).1,(heardT e).2⟩
theorem tick_N {e:Ud} (h:F76 e=true):F80 e=bif decide (e.Left>0) then (bif (e.Left-1==0) then F82 (tickX e (e.Left-1)) else tickX e (e.Left-1)) else tickX e e.Left:=by
 unfold F80 F80_j0 F80_j1 tickX heardT
 rw [h]
 cases decide (e.Keep>0) with
 | true =>
  cases (e.Keep-1==0) <;> cases decide (e.Left>0) <;> cases (e.Left-1==0) <;> rfl
 | false=>cases decide (e.Left>0) <;> cases (e.Left-1==0) <;> rfl
theorem fresh_any (l:List Uf):anySt (F88 l)=false:=by
 rw [freshEq]
 cases h:anySt (l.filter fun r=>!r.Stale) with
 | false=>rfl
 | true =>
  obtain ⟨r,hr,hs⟩:=(any_iff _).1 h
  rw [List.mem_filter,hs] at hr
  exact absurd hr.2 uu6
theorem heardT_ok {e:Ud} (h:EB e):(heardT e).1.length<=16/\(0<=(heardT e).2/\(heardT e).2<=6)/\ROk (heardT e).1/\(∀ r,r∈(heardT e).1->r∈e.Heard)/\anySt (heardT e).1=decide ((heardT e).2>0):=by
 have hk:=h.keep
 unfold heardT
 by_cases h1:e.Keep>0
 ·rw [Qv h1,Qd]
  by_cases h2:e.Keep-1=0
  ·rw [beqD,Qv h2,Qd]
   have hs:(F88 e.Heard).Sublist e.Heard:=by rw [freshEq]; exact List.filter_sublist
   refine ⟨Qs hs.length_le h.hlen,by show 0<=e.Keep-1/\e.Keep-1<=6; omega,ord_sub h.hord hs,fun r hr=>hs.subset hr,?_⟩
   show anySt (F88 e.Heard)=decide (e.Keep-1>0)
   rw [fresh_any,Qw uu0]
  ·rw [beqD,Qw h2,Qj]
   refine ⟨h.hlen,by show 0<=e.Keep-1/\e.Keep-1<=6; omega,h.hord,fun r hr=>hr,?_⟩
   show anySt e.Heard=decide (e.Keep-1>0)
   rw [h.hany,Si]; omega
 ·rw [Qw h1,Qj]
  exact ⟨h.hlen,hk,h.hord,fun r hr=>hr,h.hany⟩
theorem tickX_eb {e:Ud} (h:EOk e) (l:Int):EB (tickX e l) :=
 have x:=heardT_ok h.eb
 ⟨h.nm,h.pr,h.ne,h.keys,h.boot,h.want,h.pb,h.pt,h.pp,x.1,x.2.1,x.2.2.1,x.2.2.2.2⟩
theorem tickX_ok {e:Ud} (h:EOk e) (l:Int) (h0:0<=l/\l<=e.Left) (h1:l=0->e.Left=0):EOk (tickX e l):=by
 have x:=heardT_ok h.eb
 have y:=(heard_iff e).1 h.hd
 have hl:=h.left
 refine ⟨h.nm,h.pr,h.ne,h.keys,h.boot,h.want,h.turn,h.pb,h.pt,h.pp,(by show 0<=l/\l<=4; omega),(fun hx=>h.lp (by have:l>0:=hx; omega)),(fun hx=>?_),h.num,h.got,h.und,h.un,h.told,h.app,(heard_iff _).2 ⟨x.1,x.2.1,x.2.2.1,fun hx r hr=>y.2.2.2.1 (h1 hx) r (x.2.2.2.1 r hr),x.2.2.2.2⟩⟩
 have:=h.up hx
 show l≠0
 exact fun h2=>this (h1 h2)
theorem eok_tick {e:Ud} (h:EOk e):EOk (F80 e):=by
 rw [tick_N ((endOk_iff e).2 h)]
 have hl:=h.left
 by_cases h1:e.Left>0
 ·rw [Qv h1,Qd]
  by_cases h2:e.Left-1=0
  ·rw [beqD,Qv h2,Qd]; exact eok_life (tickX_eb h _)
  ·rw [beqD,Qw h2,Qj]; exact tickX_ok h _ uu0 uu0
 ·rw [Qw h1,Qj]; exact tickX_ok h _ uu0 (fun h=>h)
def lis1 (e:Ud) (w:HelloWord):Ud :=
 bif decide (w.Boot>e.PeerBoot) then ⟨e.Name,e.Peer,e.Keys,e.Boot,e.Want,e.Turn,w.Boot,e.PeerTurn,false,e.Left,0,⟨0,⟨0,0,0,0⟩⟩,[],false,0,false,(anewN e).Heard,(anewN e).Keep⟩ else e
def lis2 (y:Ud) (w:HelloWord):Ud:=⟨y.Name,y.Peer,y.Keys,y.Boot,y.Want,y.Turn,y.PeerBoot,w.Turn,(w.Yours==y.Boot),4,y.Num,y.Under,y.Told,y.All,y.Got,y.Full,y.Heard,y.Keep⟩
def lis3 (x:Ud) (w:HelloWord):Ud:=bif (bif decide (x.Under.Kind>0) then (w.Heard==x.Num) else false) then F91 x else x
def toldP (l:List Uf) (c:HelloChange):List Uf×Bool:=bif toldAl l c then (l,(c.Kind==2)) else F92fr l c
def lis4 (x:Ud) (w:HelloWord):Ud :=
 bif (bif decide (w.Change.Kind>0) then (w.Num==(IntKind.i64.wrap (x.Got+1))) else false) then (bif (toldP x.Heard w.Change).2 then ⟨x.Name,x.Peer,x.Keys,x.Boot,x.Want,x.Turn,x.PeerBoot,x.PeerTurn,x.Up,x.Left,x.Num,x.Under,x.Told,x.All,w.Num,(bif x.Full then true else (w.Change.Kind==3)),(toldP x.Heard w.Change).1,x.Keep⟩ else x) else x
theorem lis1_heard (e:Ud) (w:HelloWord):(lis1 e w).Heard=heardL e w:=by
 unfold lis1 heardL
 cases decide (w.Boot>e.PeerBoot) <;> rfl
theorem lis3_heard (x:Ud) (w:HelloWord):(lis3 x w).Heard=x.Heard:=by
 unfold lis3
 cases (bif decide (x.Under.Kind>0) then (w.Heard==x.Num) else false)
 ·rfl
 ·exact (answered_len x).1
theorem listen_j0 (e:Ud) (w:HelloWord):F86al_j0 e w=.done ((lis1 e w).Name,(lis1 e w).Peer,(lis1 e w).Keys,(lis1 e w).Boot,(lis1 e w).Want,(lis1 e w).Turn,(lis1 e w).PeerBoot,(lis1 e w).PeerTurn,(lis1 e w).Up,(lis1 e w).Left,(lis1 e w).Num,(lis1 e w).Under.Kind,(lis1 e w).Under.Entry.Addr,(lis1 e w).Under.Entry.Len,(lis1 e w).Under.Entry.Cost,(lis1 e w).Under.Entry.Label,(lis1 e w).Told,(lis1 e w).All,(lis1 e w).Got,(lis1 e w).Full,(lis1 e w).Heard,(lis1 e w).Keep)/\F86fr_j0 e w=.done ((lis1 e w).Name,(lis1 e w).Peer,(lis1 e w).Keys,(lis1 e w).Boot,(lis1 e w).Want,(lis1 e w).Turn,(lis1 e w).PeerBoot,(lis1 e w).PeerTurn,(lis1 e w).Up,(lis1 e w).Left,(lis1 e w).Num,(lis1 e w).Under.Kind,(lis1 e w).Under.Entry.Addr,(lis1 e w).Under.Entry.Len,(lis1 e w).Under.Entry.Cost,(lis1 e w).Under.Entry.Label,(lis1 e w).Told,(lis1 e w).All,(lis1 e w).Got,(lis1 e w).Full,(lis1 e w).Heard,(lis1 e w).Keep):=by
 unfold F86al_j0 F86fr_j0 lis1
 rw [anew_N]
 cases decide (w.Boot>e.PeerBoot) <;> exact ⟨rfl,rfl⟩
theorem listen_j1 (e:Ud) (w:HelloWord) (y:Ud):F86al_j1 e w y.Name y.Peer y.Keys y.Boot y.Want y.Turn y.PeerBoot y.PeerTurn y.Up y.Left y.Num y.Under.Kind y.Under.Entry.Addr y.Under.Entry.Len y.Under.Entry.Cost y.Under.Entry.Label y.Told y.All y.Got y.Full y.Heard y.Keep=.done ((lis3 (lis2 y w) w).Name,(lis3 (lis2 y w) w).Peer,(lis3 (lis2 y w) w).Keys,(lis3 (lis2 y w) w).Boot,(lis3 (lis2 y w) w).Want,(lis3 (lis2 y w) w).Turn,(lis3 (lis2 y w) w).PeerBoot,(lis3 (lis2 y w) w).PeerTurn,(lis3 (lis2 y w) w).Up,(lis3 (lis2 y w) w).Left,(lis3 (lis2 y w) w).Num,(lis3 (lis2 y w) w).Under.Kind,(lis3 (lis2 y w) w).Under.Entry.Addr,(lis3 (lis2 y w) w).Under.Entry.Len,(lis3 (lis2 y w) w).Under.Entry.Cost,(lis3 (lis2 y w) w).Under.Entry.Label,(lis3 (lis2 y w) w).Told,(lis3 (lis2 y w) w).All,(lis3 (lis2 y w) w).Got,(lis3 (lis2 y w) w).Full,(lis3 (lis2 y w) w).Heard,(lis3 (lis2 y w) w).Keep)/\F86fr_j1 e w y.Name y.Peer y.Keys y.Boot y.Want y.Turn y.PeerBoot y.PeerTurn y.Up y.Left y.Num y.Under.Kind y.Under.Entry.Addr y.Under.Entry.Len y.Under.Entry.Cost y.Under.Entry.Label y.Told y.All y.Got y.Full y.Heard y.Keep=.done ((lis3 (lis2 y w) w).Name,(lis3 (lis2 y w) w).Peer,(lis3 (lis2 y w) w).Keys,(lis3 (lis2 y w) w).Boot,(lis3 (lis2 y w) w).Want,(lis3 (lis2 y w) w).Turn,(lis3 (lis2 y w) w).PeerBoot,(lis3 (lis2 y w) w).PeerTurn,(lis3 (lis2 y w) w).Up,(lis3 (lis2 y w) w).Left,(lis3 (lis2 y w) w).Num,(lis3 (lis2 y w) w).Under.Kind,(lis3 (lis2 y w) w).Under.Entry.Addr,(lis3 (lis2 y w) w).Under.Entry.Len,(lis3 (lis2 y w) w).Under.Entry.Cost,(lis3 (lis2 y w) w).Under.Entry.Label,(lis3 (lis2 y w) w).Told,(lis3 (lis2 y w) w).All,(lis3 (lis2 y w) w).Got,(lis3 (lis2 y w) w).Full,(lis3 (lis2 y w) w).Heard,(lis3 (lis2 y w) w).Keep):=by
 unfold F86al_j1 F86fr_j1 lis3
 show (bif (bif decide (y.Under.Kind>0) then (w.Heard==y.Num) else false) then _ else _)=_/\(bif (bif decide (y.Under.Kind>0) then (w.Heard==y.Num) else false) then _ else _)=_
 have hk:(lis2 y w).Under.Kind=y.Under.Kind:=rfl
 have hn:(lis2 y w).Num=y.Num:=rfl
 rw [hk,hn]
 cases (bif decide (y.Under.Kind>0) then (w.Heard==y.Num) else false) <;> exact ⟨rfl,rfl⟩
theorem listen_N (e:Ud) (w:HelloWord):F86 e w=bif !(w.Yours==(lis1 e w).Boot) then lis2 (lis1 e w) w else F93 (lis4 (lis3 (lis2 (lis1 e w) w) w) w):=by
 have hh:(lis3 (lis2 (lis1 e w) w) w).Heard=heardL e w:=by rw [lis3_heard]; exact lis1_heard e w
 unfold F86
 cases hA:lisAl e w with
 | true =>
  have hp:toldP (lis3 (lis2 (lis1 e w) w) w).Heard w.Change=((lis3 (lis2 (lis1 e w) w) w).Heard,(w.Change.Kind==2)):=by
   unfold toldP; rw [hh]; unfold lisAl at hA; rw [hA]; rfl
  rw [Qd]
  unfold F86al lis4
  rw [hp,(listen_j0 e w).1]
  simp only [Lp.fin]
  cases hq:(w.Yours==(lis1 e w).Boot) with
  | false=>unfold lis2; rw [hq]; rfl
  | true =>
   simp only [Rw,Qj]
   rw [(listen_j1 e w (lis1 e w)).1]
   simp only [Lp.fin]
   generalize lis3 (lis2 (lis1 e w) w) w=z
   unfold F86al_j2
   cases (bif decide (w.Change.Kind>0) then (w.Num==(IntKind.i64.wrap (z.Got+1))) else false) with
   | false=>rfl
   | true=>cases (w.Change.Kind==2) <;> rfl
 | false =>
  have hp:toldP (lis3 (lis2 (lis1 e w) w) w).Heard w.Change=F92fr (lis3 (lis2 (lis1 e w) w) w).Heard w.Change:=by
   unfold toldP; rw [hh]; unfold lisAl at hA; rw [hA]; rfl
  rw [Qj]
  unfold F86fr lis4
  rw [hp,(listen_j0 e w).2]
  simp only [Lp.fin]
  cases hq:(w.Yours==(lis1 e w).Boot) with
  | false=>unfold lis2; rw [hq]; rfl
  | true =>
   simp only [Rw,Qj]
   rw [(listen_j1 e w (lis1 e w)).2]
   simp only [Lp.fin]
   generalize lis3 (lis2 (lis1 e w) w) w=z
   unfold F86fr_j2
   cases (bif decide (w.Change.Kind>0) then (w.Num==(IntKind.i64.wrap (z.Got+1))) else false) with
   | false=>rfl
   | true=>cases (F92fr z.Heard w.Change).2 <;> rfl
theorem ann_N (e:Ud):F91 e=⟨e.Name,e.Peer,e.Keys,e.Boot,e.Want,e.Turn,e.PeerBoot,e.PeerTurn,e.Up,e.Left,e.Num,⟨0,⟨0,0,0,0⟩⟩,F84 e.Told e.Under,(bif e.Under.Kind==3 then true else e.All),e.Got,e.Full,e.Heard,e.Keep⟩:=by
 unfold F91
 cases (e.Under.Kind==3) <;> rfl
theorem kept_N (e:Ud):F93 e=⟨e.Name,e.Peer,e.Keys,e.Boot,e.Want,e.Turn,e.PeerBoot,e.PeerTurn,e.Up,e.Left,e.Num,e.Under,e.Told,e.All,e.Got,e.Full,e.Heard,(bif anySt e.Heard then e.Keep else 0)⟩:=by
 unfold F93
 rw [stale_none]
 cases anySt e.Heard <;> rfl
structure RP (l m:List Uf):Prop where
 len:m.length<=16
 ord:ROk m
 st:anySt m=true->anySt l=true
theorem hasV_put (l:List Uf) (e:Ue):hasV l e=putG Uf.Entry l e ⟨e,false⟩:=rfl
theorem anySt_put {l:List Uf} {e:Ue} (h:anySt (putG Uf.Entry l e ⟨e,false⟩)=true):anySt l=true:=by
 obtain ⟨r,hr,hs⟩:=(any_iff _).1 h
 rcases putG_mem hr with rfl | hr
 ·cases hs
 ·exact (any_iff _).2 ⟨r,hr,hs⟩
theorem anySt_sub {l m:List Uf} (hs:m.Sublist l) (h:anySt m=true):anySt l=true:=by
 obtain ⟨r,hr,hx⟩:=(any_iff _).1 h
 exact (any_iff _).2 ⟨r,hs.subset hr,hx⟩
theorem fnd_put_len {l:List Uf} {e:Ue} (h:fndR l e=true):(hasV l e).length=l.length:=by
 rw [cond1_eq] at h
 unfold hasV
 rw [h,Qd,List.length_set]
theorem has_rp {l:List Uf} {e:Ue} (ho:ROk l) (hl:l.length<=16) (he:F29 e=true) (ha:hasAl l e=false):RP l (F47fr l e).1/\(F47fr l e).2=true:=by
 rw [has_frEq]
 cases h1:fndR l e with
 | true =>
  rw [Qd]
  exact ⟨⟨by rw [fnd_put_len h1]; exact hl,ord_put ho he rfl,anySt_put⟩,rfl⟩
 | false =>
  rw [Qj]
  cases h2:((l.length:Int)==16) with
  | false =>
   have hne:(l.length:Int)≠16:=by simpa using h2
   have:=hasV_len l e
   rw [Qj]
   exact ⟨⟨by show (hasV l e).length<=16; omega,ord_put ho he rfl,anySt_put⟩,rfl⟩
  | true =>
   rw [Qd]
   have h16:(l.length:Int)=16:=eq_of_beq h2
   have h3:=Re (hasAl_no ha h1 h2)
   have h4:=stale_in l
   have hw:(F61 l (F60 l)).Sublist l:=by
    rw [without_eq,show Int.toNat (F60 l+1)=Int.toNat (F60 l)+1 by omega]
    exact without_sub _ _
   have h5:=without_len l (F60 l) uu0 uu0 h4.2
   have h6:=hasV_len (F61 l (F60 l)) e
   exact ⟨⟨by show (hasV _ e).length<=16; omega,ord_put (ord_sub ho hw) he rfl,fun h=>anySt_sub hw (anySt_put h)⟩,rfl⟩
theorem change_entry {c:HelloChange} (h:F34 c=true) (hk:c.Kind=1):F29 c.Entry=true:=by
 unfold F34 at h
 rw [hk] at h
 exact h
theorem told_rp {l:List Uf} {c:HelloChange} (ho:ROk l) (hl:l.length<=16) (hc:F34 c=true):RP l (toldP l c).1:=by
 unfold toldP
 cases ha:toldAl l c with
 | true=>exact ⟨hl,ho,fun h=>h⟩
 | false =>
  rw [Qj]
  unfold F92fr
  by_cases h1:c.Kind=1
  ·have h1':(c.Kind==1)=true:=by rw [h1]; rfl
   rw [h1',Qd]
   exact (has_rp ho hl (change_entry hc h1) (toldAl_1 ha h1')).1
  ·have h1':(c.Kind==1)=false:=by simpa using h1
   rw [h1',Qj]
   by_cases h2:c.Kind=2
   ·have h2':(c.Kind==2)=true:=by rw [h2]; rfl
    rw [h2',Qd]
    have hw:(F61 l (F58 l c.Entry)).Sublist l:=by
     have h4:=where_in l c.Entry
     rw [without_eq,show Int.toNat (F58 l c.Entry+1)=Int.toNat (F58 l c.Entry)+1 by omega]
     exact without_sub _ _
    exact ⟨Qs hw.length_le hl,ord_sub ho hw,anySt_sub hw⟩
   ·have h2':(c.Kind==2)=false:=by simpa using h2
    rw [h2',Qj]
    have hs:(F88 l).Sublist l:=by rw [freshEq]; exact List.filter_sublist
    exact ⟨Qs hs.length_le hl,ord_sub ho hs,fun h=>by rw [fresh_any] at h; cases h⟩
structure WFit (w:HelloWord):Prop where
 boot:1<=w.Boot/\w.Boot<=999
 turn:1<=w.Turn/\w.Turn<=1000000
 num:0<=w.Num/\w.Num<=w.Turn
 ch:F34 w.Change=true
theorem lis2_ok {e:Ud} {w:HelloWord} (h:EOk e) (hw:WFit w):EOk (lis2 (lis1 e w) w):=by
 have hpb:=h.pb
 have b:=hw.boot
 have t:=hw.turn
 have x:=(heard_iff e).1 h.hd
 have hfour:(0:Int)<=4/\(4:Int)<=4:=by decide
 have hn4:¬ (4:Int)=0:=by decide
 unfold lis1
 by_cases hb:w.Boot>e.PeerBoot
 ·rw [Qv hb,Qd]
  obtain ⟨a1,a2,a3,a4,a5⟩:=anew_hd h.eb
  exact ⟨h.nm,h.pr,h.ne,h.keys,h.boot,h.want,h.turn,(by show 0<=w.Boot/\w.Boot<=999; omega),(by show 0<=w.Turn/\w.Turn<=1000000; omega),(by show w.Boot=0↔w.Turn=0; omega),hfour,(fun _=>by show w.Boot≠0; omega),(fun _=>hn4),⟨Int.le_refl 0,h.turn.1⟩,⟨Int.le_refl 0,by show (0:Int)<=1000000; decide⟩,change0,(fun hx=>absurd hx (by show ¬ ((0:Int)>0); decide)),table_nil,uu37,(heard_iff _).2 ⟨a1,a2,a3,fun hx=>absurd hx hn4,a5⟩⟩
 ·rw [Qw hb,Qj]
  exact ⟨h.nm,h.pr,h.ne,h.keys,h.boot,h.want,h.turn,h.pb,(by show 0<=w.Turn/\w.Turn<=1000000; omega),(by show e.PeerBoot=0↔w.Turn=0; omega),hfour,(fun _=>by show e.PeerBoot≠0; omega),(fun _=>hn4),h.num,h.got,h.und,h.un,h.told,h.app,(heard_iff _).2 ⟨x.1,x.2.1,x.2.2.1,fun hx=>absurd hx hn4,x.2.2.2.2⟩⟩
theorem lis3_ok {x:Ud} (w:HelloWord) (h:EOk x):EOk (lis3 x w):=by
 unfold lis3
 cases (bif decide (x.Under.Kind>0) then (w.Heard==x.Num) else false) with
 | false=>exact h
 | true =>
  rw [Qd,ann_N]
  exact ⟨h.nm,h.pr,h.ne,h.keys,h.boot,h.want,h.turn,h.pb,h.pt,h.pp,h.left,h.lp,h.up,h.num,h.got,change0,(fun hx=>absurd hx (by show ¬ ((0:Int)>0); decide)),h.app,(by show F8 (F84 (F84 x.Told x.Under) ⟨0,⟨0,0,0,0⟩⟩)=true; rw [apply_zero]; exact h.app),h.hd⟩
theorem lis4_ok {x:Ud} {w:HelloWord} (h:EOk x) (hl:x.Left=4) (hw:WFit w):EOk (F93 (lis4 x w)):=by
 have y:=(heard_iff x).1 h.hd
 have hn:=hw.num
 have ht:=hw.turn
 have hk:=y.2.1
 have base:∀ (l:List Uf) (g:Int) (f:Bool),RP x.Heard l->0<=g/\g<=1000000->EOk (F93 ⟨x.Name,x.Peer,x.Keys,x.Boot,x.Want,x.Turn,x.PeerBoot,x.PeerTurn,x.Up,x.Left,x.Num,x.Under,x.Told,x.All,g,f,l,x.Keep⟩):=fun l g f hr hg=>by
  rw [kept_N]
  refine ⟨h.nm,h.pr,h.ne,h.keys,h.boot,h.want,h.turn,h.pb,h.pt,h.pp,h.left,h.lp,h.up,h.num,hg,h.und,h.un,h.told,h.app,(heard_iff _).2 ⟨hr.len,?_,hr.ord,fun hx=>?_,?_⟩⟩
  ·show 0<=(bif anySt l then x.Keep else 0)/\(bif anySt l then x.Keep else 0)<=6
   cases anySt l with
   | true=>exact hk
   | false=>rw [Qj]; omega
  ·have:x.Left=0:=hx
   omega
  ·show anySt l=decide ((bif anySt l then x.Keep else 0)>0)
   cases ha:anySt l with
   | true=>rw [Qd,<- y.2.2.2.2]; exact (hr.st ha).symm
   | false=>rfl
 unfold lis4
 cases (bif decide (w.Change.Kind>0) then (w.Num==(IntKind.i64.wrap (x.Got+1))) else false) with
 | false=>exact base x.Heard x.Got x.Full ⟨y.1,y.2.2.1,fun h=>h⟩ h.got
 | true =>
  rw [Qd]
  cases (toldP x.Heard w.Change).2 with
  | false=>exact base x.Heard x.Got x.Full ⟨y.1,y.2.2.1,fun h=>h⟩ h.got
  | true=>exact base _ _ _ (told_rp y.2.2.1 y.1 hw.ch) uu0
theorem lis3_left (x:Ud) (w:HelloWord):(lis3 x w).Left=x.Left:=by
 unfold lis3
 cases (bif decide (x.Under.Kind>0) then (w.Heard==x.Num) else false) with
 | false=>rfl
 | true=>rw [Qd,ann_N]
theorem eok_listen {e:Ud} {w:HelloWord} (h:EOk e) (hw:WFit w):EOk (F86 e w):=by
 rw [listen_N]
 cases (w.Yours==(lis1 e w).Boot) with
 | false=>exact lis2_ok h hw
 | true=>exact lis4_ok (lis3_ok w (lis2_ok h hw)) (lis3_left _ _) hw
theorem EOk.small {e:Ud} (h:EOk e):smallE e:=by
 have hl:=endOkS_T e ((endOk_iff e).2 h)
 unfold smallE; omega
structure WdOk (w:HelloWord):Prop where
 fr:0<=w.From/\w.From<=65535
 to:0<=w.To/\w.To<=65535
 key:1<=w.Key/\w.Key<=9
 boot:1<=w.Boot/\w.Boot<=999
 yours:0<=w.Yours/\w.Yours<=999
 turn:1<=w.Turn/\w.Turn<=1000000
 num:0<=w.Num/\w.Num<=w.Turn
 heard:0<=w.Heard/\w.Heard<=1000000
 sum:0<=w.Sum/\w.Sum<=2147483646
 ch:F34 w.Change=true
 kn:w.Change.Kind=0\/w.Num>0
theorem wordOk_iff (w:HelloWord):F12 w=true↔WdOk w:=by
 unfold F12
 simp only [Rr,Bool.cond_false_left,Q9,Qh,Sk,Sa,Tk,Bool.not_eq_false',Rs,Tj]
 constructor
 ·rintro ⟨⟨⟨⟨⟨a1,a2⟩,a3⟩,a4⟩,a5⟩,⟨⟨⟨b1,b2⟩,b3⟩,b4⟩,c,d⟩
  exact ⟨a1,a2,a3,a4,a5,b1,b2,b3,b4,c,d⟩
 ·rintro ⟨a1,a2,a3,a4,a5,b1,b2,b3,b4,c,d⟩
  exact ⟨⟨⟨⟨⟨a1,a2⟩,a3⟩,a4⟩,a5⟩,⟨⟨⟨b1,b2⟩,b3⟩,b4⟩,c,d⟩
theorem WdOk.fit {w:HelloWord} (h:WdOk w):WFit w:=⟨h.boot,h.turn,h.num,h.ch⟩
theorem right_word {keys:List HelloKey} {w:HelloWord} (h:F15 keys w=true):WdOk w:=by
 rw [<- wordOk_iff]
 cases x:F12 w with
 | true=>rfl
 | false=>unfold F15 at h; rw [x] at h; simp at h
theorem listen_small (e:Ud) (w:HelloWord) (h:F76 e=true) (hr:F15 e.Keys w=true):smallE (F86 e w) :=
 (eok_listen ((endOk_iff e).1 h) (right_word hr).fit).small
theorem nodup_sub {α:Type} [DecidableEq α]:∀ (a b:List α),a.Nodup->(∀ x,x∈a->x∈b)->a.length<=b.length
 | [],_,_,_=>Rk _
 | x :: a,b,hn,h=>by
  rw [Qx] at hn
  have hx:=h x Qi
  have ih:=nodup_sub a (b.erase x) hn.2 fun y hy=>(List.mem_erase_of_ne fun he=>hn.1 (by rw [<- he]; exact hy)).2 (h y (Ql _ hy))
  have hl:=List.length_erase_of_mem hx
  have hp:0<b.length:=List.length_pos_of_mem hx
  rw [Rc]
  omega
theorem put_G (t:List Ue) (e:Ue):F40 t e=putG (fun x=>x) t e e:=by
 rw [put_eq]
 unfold putG fndE
 rw [show posG (fun x=>x) t e=posE t e from rfl]
 simp only [Q0,Tg,T1]
theorem drop_sub (t:List Ue) (e:Ue):(F90 t e).Sublist t:=by
 unfold F90
 have h:=at_in t e
 cases hd:decide (F97 t e<0) with
 | true=>exact List.Sublist.refl _
 | false =>
  have hd:=Re hd
  rw [Qj,show Int.toNat (F97 t e+1)=Int.toNat (F97 t e)+1 by omega]
  exact without_sub _ _
theorem table_ord {t:List Ue} (h:F8 t=true):TOk t:=((tableOk_iff t).1 h).2
theorem table_len {t:List Ue} (h:F8 t=true):t.length<=8:=((tableOk_iff t).1 h).1
theorem table_sub {t m:List Ue} (h:F8 t=true) (hs:m.Sublist t):F8 m=true :=
 (tableOk_iff m).2 ⟨Qs hs.length_le (table_len h),ord_sub (table_ord h) hs⟩
def keyE (x:Ue):Int×Int:=(x.Addr,x.Len)
theorem ord_nodup {t:List Ue} (h:TOk t):(t.map keyE).Nodup:=by
 rw [List.Nodup,List.pairwise_map]
 refine h.2.imp fun {a b} hab he=>?_
 have:=less_same hab
 unfold keyE at he
 simp only [Qz] at he
 rw [same_iff.2 he] at this
 cases this
theorem fnd_key {t:List Ue} {x:Ue} (h:fndE t x=true):keyE x∈t.map keyE:=by
 have hl:=fndE_lt h
 unfold fndE at h
 rw [Qv hl,Qd] at h
 obtain ⟨h1,h2⟩:=same_iff.1 h
 refine Sd.2 ⟨t.getD (posE t x) default,by rw [getD_lt t hl]; exact Sg hl,?_⟩
 unfold keyE
 rw [h1,h2]
theorem next_ok {e:Ud} (h:EOk e):F34 (F87 e)=true/\F8 (F84 e.Told (F87 e))=true:=by
 have hf:=endFitS e ((endOk_iff e).2 h)
 unfold F87
 rw [extra_eq _ _ hf.want,lacks_eq _ _ hf.told]
 cases h1:first (fun k=>!(fndE e.Want (e.Told.getD k default))) e.Told.length with
 | some k =>
  have hk:=(first_some.1 h1).1
  have ho:=hf.told.ok k hk
  refine ⟨?_,table_sub h.told (drop_sub _ _)⟩
  have hp:F49 (⟨(e.Told.getD k default).Addr,(e.Told.getD k default).Len,0,0⟩:Ue)=true:=by
   unfold F29 at ho
   have:F49 (e.Told.getD k default)=true:=by
    cases x:F49 (e.Told.getD k default) with
    | true=>rfl
    | false=>rw [x] at ho; cases ho
   exact this
  have:F34 ⟨2,⟨(e.Told.getD k default).Addr,(e.Told.getD k default).Len,0,0⟩⟩=true:=by
   unfold F34
   rw [hp]; rfl
  exact this
 | none =>
  have hx:=first_none.1 h1
  cases h2:first (fun k=>!(decide (e.Want.getD k default∈e.Told))) e.Want.length with
  | some k =>
   have hk:=(first_some.1 h2).1
   have ho:=hf.want.ok k hk
   refine ⟨ho,?_⟩
   show F8 (F40 e.Told (e.Want.getD k default))=true
   rw [put_G,tableOk_iff]
   have hord:TOk (putG (fun x=>x) e.Told (e.Want.getD k default) (e.Want.getD k default)):=ord_put (table_ord h.told) ho rfl
   refine ⟨?_,hord⟩
   have hw:=table_len h.want
   have:=nodup_sub _ (e.Want.map keyE) (ord_nodup hord) fun q hq=>by
    obtain ⟨x,hm,rfl⟩:=Sd.1 hq
    rcases putG_mem hm with rfl | hm
    ·exact Sd.2 ⟨_,by rw [getD_lt _ hk]; exact Sg hk,rfl⟩
    ·obtain ⟨j,hj,rfl⟩:=List.getElem_of_mem hm
     have:=hx j hj
     rw [getD_lt _ hj] at this
     exact fnd_key (by simpa using this)
   rw [Su,Su] at this
   omega
  | none =>
   cases e.All with
   | true=>exact ⟨change0,by show F8 (F84 e.Told ⟨0,⟨0,0,0,0⟩⟩)=true; rw [apply_zero]; exact h.told⟩
   | false=>exact ⟨rfl,h.told⟩
def sayC (e:Ud):HelloChange×Int:=bif (bif e.Up then (e.Under.Kind==0) else false) then (F87 e,bif decide ((F87 e).Kind>0) then e.Num+1 else e.Num) else (e.Under,e.Num)
def sayE (e:Ud):Ud:=⟨e.Name,e.Peer,e.Keys,e.Boot,e.Want,e.Turn+1,e.PeerBoot,e.PeerTurn,e.Up,e.Left,(sayC e).2,(sayC e).1,e.Told,e.All,e.Got,e.Full,e.Heard,e.Keep⟩
def sayK (e:Ud):HelloKey:=e.Keys.getD ((e.Keys.length:Int)-1).toNat default
def sayW (e:Ud):HelloWord:=⟨e.Name,e.Peer,(sayK e).Id,e.Boot,e.PeerBoot,e.Turn+1,(sayC e).2,e.Got,(sayC e).1,F38 (sayK e).Secret ⟨e.Name,e.Peer,(sayK e).Id,e.Boot,e.PeerBoot,e.Turn+1,(sayC e).2,e.Got,(sayC e).1,0⟩⟩
def word0:HelloWord:=⟨0,0,0,0,0,0,0,0,⟨0,⟨0,0,0,0⟩⟩,0⟩
theorem say_N {e:Ud} (h:EOk e):F78 e=bif (e.Boot==1000) then (e,word0,false) else bif (e.Turn==1000000) then (F82 e,word0,false) else (sayE e,sayW e,true):=by
 have ht:=h.turn
 have hn:=h.num
 unfold F78 F78_j0 sayE sayW sayK sayC
 rw [(endOk_iff e).2 h,wrap_of uu0 uu0,wrap_of uu0 uu0]
 have hx:F87 (⟨e.Name,e.Peer,e.Keys,e.Boot,e.Want,e.Turn+1,e.PeerBoot,e.PeerTurn,e.Up,e.Left,e.Num,e.Under,e.Told,e.All,e.Got,e.Full,e.Heard,e.Keep⟩:Ud)=F87 e:=rfl
 rw [hx]
 cases (e.Boot==1000) with
 | true=>rfl
 | false =>
  cases (e.Turn==1000000) with
  | true=>rfl
  | false =>
   cases (bif e.Up then (e.Under.Kind==0) else false) with
   | false=>rfl
   | true=>cases decide ((F87 e).Kind>0) <;> rfl
theorem sayC_ok {e:Ud} (h:EOk e):F34 (sayC e).1=true/\F8 (F84 e.Told (sayC e).1)=true/\e.Num<=(sayC e).2/\(sayC e).2<=e.Num+1/\((sayC e).1.Kind>0->(sayC e).2≠0):=by
 have hn:=h.num
 unfold sayC
 cases (bif e.Up then (e.Under.Kind==0) else false) with
 | false=>exact ⟨h.und,h.app,Int.le_refl _,by show e.Num<=e.Num+1; omega,h.un⟩
 | true =>
  obtain ⟨h1,h2⟩:=next_ok h
  refine ⟨h1,h2,?_,?_,?_⟩
  ·show e.Num<=(bif decide ((F87 e).Kind>0) then e.Num+1 else e.Num)
   cases decide ((F87 e).Kind>0)
   ·exact Int.le_refl _
   ·rw [Qd]; omega
  ·show (bif decide ((F87 e).Kind>0) then e.Num+1 else e.Num)<=e.Num+1
   cases decide ((F87 e).Kind>0)
   ·rw [Qj]; omega
   ·exact Int.le_refl _
  ·intro hk
   have hk:(F87 e).Kind>0:=hk
   show (bif decide ((F87 e).Kind>0) then e.Num+1 else e.Num)≠0
   rw [Qv hk,Qd]; omega
theorem eok_sayE {e:Ud} (h:EOk e) (ht:e.Turn≠1000000):EOk (sayE e):=by
 obtain ⟨c1,c2,c3,c4,c5⟩:=sayC_ok h
 have h1:=h.turn
 have h2:=h.num
 exact ⟨h.nm,h.pr,h.ne,h.keys,h.boot,h.want,(by show 0<=e.Turn+1/\e.Turn+1<=1000000; omega),h.pb,h.pt,h.pp,h.left,h.lp,h.up,(by show 0<=(sayC e).2/\(sayC e).2<=e.Turn+1; omega),h.got,c1,c5,h.told,c2,h.hd⟩
theorem key_ok {keys:List HelloKey} (h:F10 keys=true) {k:Nat} (hk:k<keys.length):(1<=(keys.getD k default).Id/\(keys.getD k default).Id<=9)/\(1<=(keys.getD k default).Secret/\(keys.getD k default).Secret<=2147483646)/\(0<k->(keys.getD (k-1) default).Id<(keys.getD k default).Id):=by
 rw [keysOkS_eq] at h
 simp only [Qh,allB_iff] at h
 have hb:=h.2 k hk
 unfold badKey at hb
 simp only [Rr,Q9,Sa,Bool.not_eq_false',Rs,Bool.and_eq_false_iff,T4] at hb
 obtain ⟨⟨h1,h2⟩,h3⟩:=hb
 refine ⟨h1,h2,fun h0=>?_⟩
 rcases h3 with h3 | h3
 ·exact absurd h0 h3
 ·omega
theorem sum_in (s:Int) (w:HelloWord):0<=F38 s w/\F38 s w<=2147483646:=by
 rw [sumS_eq]
 have h:=mixP_in ((wordL w).foldl mixP (mixP 0 s)) s
 unfold InP at h
 omega
theorem wd_sayW {e:Ud} (h:EOk e) (hb:e.Boot≠1000) (ht:e.Turn≠1000000):WdOk (sayW e):=by
 obtain ⟨c1,c2,c3,c4,c5⟩:=sayC_ok h
 have h1:=h.turn
 have h2:=h.num
 have h3:=h.boot
 have hk:=keysOkS_T e.Keys h.keys
 have hk:=key_ok h.keys (k:=Int.toNat ((e.Keys.length:Int)-1)) uu0
 refine ⟨h.nm,h.pr,hk.1,(by show 1<=e.Boot/\e.Boot<=999; omega),h.pb,(by show 1<=e.Turn+1/\e.Turn+1<=1000000; omega),(by show 0<=(sayC e).2/\(sayC e).2<=e.Turn+1; omega),h.got,sum_in _ _,c1,?_⟩
 show (sayC e).1.Kind=0\/(sayC e).2>0
 have:=change_kind c1
 by_cases h0:(sayC e).1.Kind>0
 ·have:=c5 h0; right; omega
 ·left; omega
theorem say_ok {e:Ud} (h:EOk e):EOk (F78 e).1/\(F78 e).1.Name=e.Name/\(F78 e).1.Peer=e.Peer/\((F78 e).2.2=true->WdOk (F78 e).2.1):=by
 rw [say_N h]
 by_cases hb:e.Boot=1000
 ·have:(e.Boot==1000)=true:=by rw [hb]; rfl
  rw [this]
  exact ⟨h,rfl,rfl,fun hx=>by cases hx⟩
 ·have:(e.Boot==1000)=false:=by simpa using hb
  rw [this,Qj]
  by_cases ht:e.Turn=1000000
  ·have:(e.Turn==1000000)=true:=by rw [ht]; rfl
   rw [this,Qd,life_N e h.boot]
   exact ⟨by rw [<- life_N e h.boot]; exact eok_life h.eb,rfl,rfl,fun hx=>by cases hx⟩
  ·have:(e.Turn==1000000)=false:=by simpa using ht
   rw [this,Qj]
   exact ⟨eok_sayE h ht,rfl,rfl,fun _=>wd_sayW h hb ht⟩
theorem kc15 (keys:List HelloKey) (w1:HelloWord) {K_:Prop} (k_:K_):(True)/\(Imp (.l 2 eHelloKey keys) (.l 2 eHelloKey keys))/\(Imps (eHelloWord w1) (eHelloWord w1))/\K_:=⟨trivial,Imp.refl _,Imps.refl _,k_⟩
theorem kg15 {K_:Prop} (c_ b_:Bool) (keys:List HelloKey) (w1:HelloWord) (k_:K_):(c_=b_->True)/\(c_=b_->Imp (.l 2 eHelloKey keys) (.l 2 eHelloKey keys))/\(c_=b_->Imps (eHelloWord w1) (eHelloWord w1))/\K_:=⟨fun _=>trivial,fun _=>Imp.refl _,fun _=>Imps.refl _,k_⟩
abbrev kh15 (keys:List HelloKey) (w1:HelloWord):Hint true Try.prog:=.call 15 (S15 keys w1) (ok15 keys w1) none
theorem kc86l (e1:Ud) (w1:HelloWord) {K_:Prop} (p0_:EndFit e1) (q0_:F76 e1=true) (q1_:F15 e1.Keys w1=true) (k_:(smallE (F86 e1 w1))->K_):(EndFit e1)/\(Imps (eHelloEnd e1) (eHelloEnd e1))/\(Imps (eHelloWord w1) (eHelloWord w1))/\K_:=⟨p0_,Imps.refl _,Imps.refl _,k_ (listen_small e1 w1 q0_ q1_)⟩
abbrev kh86l (e1:Ud) (w1:HelloWord):Hint true Try.prog:=.call 86 (S86 e1 w1) (ok86 e1 w1) none
def F77 (e1:Ud) (w1:HelloWord):Ud :=
 bif (!(F76 e1)) then (⟨0,0,[],0,[],0,0,0,false,0,0,(⟨0,(⟨0,0,0,0⟩:Ue)⟩:HelloChange),[],false,0,false,[],0⟩:Ud) else (bif (bif (bif (bif (e1.Boot==1000) then true else (!(F15 e1.Keys w1))) then true else (w1.From != e1.Peer)) then true else (w1.To != e1.Name)) then e1 else (bif (bif decide (w1.Boot<e1.PeerBoot) then true else (bif (w1.Boot==e1.PeerBoot) then decide (w1.Turn<=e1.PeerTurn) else false)) then e1 else (F86 e1 w1)))
theorem fi77 (e1:Ud) (w1:HelloWord) (r:Ud) (hF:r=(F77 e1 w1)):((.int .i64 r.Name:Value)=.int .i64 (F77 e1 w1).Name)/\((.int .i64 r.Peer:Value)=.int .i64 (F77 e1 w1).Peer)/\(Imp (.l 2 eHelloKey r.Keys) (.l 2 eHelloKey (F77 e1 w1).Keys))/\((.int .i64 r.Boot:Value)=.int .i64 (F77 e1 w1).Boot)/\(Imp (.l 4 eHelloEntry r.Want) (.l 4 eHelloEntry (F77 e1 w1).Want))/\((.int .i64 r.Turn:Value)=.int .i64 (F77 e1 w1).Turn)/\((.int .i64 r.PeerBoot:Value)=.int .i64 (F77 e1 w1).PeerBoot)/\((.int .i64 r.PeerTurn:Value)=.int .i64 (F77 e1 w1).PeerTurn)/\((.bool r.Up:Value)=.bool (F77 e1 w1).Up)/\((.int .i64 r.Left:Value)=.int .i64 (F77 e1 w1).Left)/\((.int .i64 r.Num:Value)=.int .i64 (F77 e1 w1).Num)/\((.int .i64 r.Under.Kind:Value)=.int .i64 (F77 e1 w1).Under.Kind)/\((.int .i64 r.Under.Entry.Addr:Value)=.int .i64 (F77 e1 w1).Under.Entry.Addr)/\((.int .i64 r.Under.Entry.Len:Value)=.int .i64 (F77 e1 w1).Under.Entry.Len)/\((.int .i64 r.Under.Entry.Cost:Value)=.int .i64 (F77 e1 w1).Under.Entry.Cost)/\((.int .i64 r.Under.Entry.Label:Value)=.int .i64 (F77 e1 w1).Under.Entry.Label)/\(Imp (.l 4 eHelloEntry r.Told) (.l 4 eHelloEntry (F77 e1 w1).Told))/\((.bool r.All:Value)=.bool (F77 e1 w1).All)/\((.int .i64 r.Got:Value)=.int .i64 (F77 e1 w1).Got)/\((.bool r.Full:Value)=.bool (F77 e1 w1).Full)/\(Imp (.l 5 eHelloRoute r.Heard) (.l 5 eHelloRoute (F77 e1 w1).Heard))/\((.int .i64 r.Keep:Value)=.int .i64 (F77 e1 w1).Keep)/\True:=by cases hF; exact ⟨rfl,rfl,Imp.refl _,rfl,Imp.refl _,rfl,rfl,rfl,rfl,rfl,rfl,rfl,rfl,rfl,rfl,rfl,Imp.refl _,rfl,rfl,rfl,Imp.refl _,rfl,trivial⟩
def S77 (e1:Ud) (w1:HelloWord):Spec:=⟨[.r (.g (eHelloEnd e1)),.r (.g (eHelloWord w1))],.ag [.v (vI (F77 e1 w1).Name),.v (vI (F77 e1 w1).Peer),.ow (.l 2 eHelloKey (F77 e1 w1).Keys),.v (vI (F77 e1 w1).Boot),.ow (.l 4 eHelloEntry (F77 e1 w1).Want),.v (vI (F77 e1 w1).Turn),.v (vI (F77 e1 w1).PeerBoot),.v (vI (F77 e1 w1).PeerTurn),.v (.bool (F77 e1 w1).Up),.v (vI (F77 e1 w1).Left),.v (vI (F77 e1 w1).Num),.v (vI (F77 e1 w1).Under.Kind),.v (vI (F77 e1 w1).Under.Entry.Addr),.v (vI (F77 e1 w1).Under.Entry.Len),.v (vI (F77 e1 w1).Under.Entry.Cost),.v (vI (F77 e1 w1).Under.Entry.Label),.ow (.l 4 eHelloEntry (F77 e1 w1).Told),.v (.bool (F77 e1 w1).All),.v (vI (F77 e1 w1).Got),.v (.bool (F77 e1 w1).Full),.ow (.l 5 eHelloRoute (F77 e1 w1).Heard),.v (vI (F77 e1 w1).Keep)],True⟩
theorem ok77 (e1:Ud) (w1:HelloWord):(S77 e1 w1).ok Try.prog 77 :=
 fnG_ok mixed (fn:=Try.f77) (ct:=.seq .no (.seq (.seq (.reg [(1,kh76l e1)]) (.cond (.seq .no .no) .no)) (.seq (.reg [(1,kh63a e1)]) (.seq (.seq (.reg [(7,kh15 e1.Keys w1)]) (.cond (.seq .no .no) .no)) (.seq (.seq .no (.cond (.seq .no .no) .no)) (.seq (.reg [(2,kh86l e1 w1),(3,kh63a (F86 e1 w1))]) .no)))))) Try.func77 (fun (_:True)=>kc76l e1 (ifb (!(F76 e1)) (fun h1=>(fun hF:((⟨0,0,[],0,[],0,0,0,false,0,0,(⟨0,(⟨0,0,0,0⟩:Ue)⟩:HelloChange),[],false,0,false,[],0⟩:Ud):Ud)=(F77 e1 w1)=>ai (Qa (fun r:Ud=>(.int .i64 r.Name:Value)) hF) (ai (Qa (fun r:Ud=>(.int .i64 r.Peer:Value)) hF) (ai ((Imp.nil 2 eHelloKey).trans (Imp.of_eq (Qa (fun r:Ud=>Dat.l 2 eHelloKey r.Keys) hF))) (ai (Qa (fun r:Ud=>(.int .i64 r.Boot:Value)) hF) (ai ((Imp.nil 4 eHelloEntry).trans (Imp.of_eq (Qa (fun r:Ud=>Dat.l 4 eHelloEntry r.Want) hF))) (ai (Qa (fun r:Ud=>(.int .i64 r.Turn:Value)) hF) (ai (Qa (fun r:Ud=>(.int .i64 r.PeerBoot:Value)) hF) (ai (Qa (fun r:Ud=>(.int .i64 r.PeerTurn:Value)) hF) (ai (Qa (fun r:Ud=>(.bool r.Up:Value)) hF) (ai (Qa (fun r:Ud=>(.int .i64 r.Left:Value)) hF) (ai (Qa (fun r:Ud=>(.int .i64 r.Num:Value)) hF) (ai (Qa (fun r:Ud=>(.int .i64 r.Under.Kind:Value)) hF) (ai (Qa (fun r:Ud=>(.int .i64 r.Under.Entry.Addr:Value)) hF) (ai (Qa (fun r:Ud=>(.int .i64 r.Under.Entry.Len:Value)) hF) (ai (Qa (fun r:Ud=>(.int .i64 r.Under.Entry.Cost:Value)) hF) (ai (Qa (fun r:Ud=>(.int .i64 r.Under.Entry.Label:Value)) hF) (ai ((Imp.nil 4 eHelloEntry).trans (Imp.of_eq (Qa (fun r:Ud=>Dat.l 4 eHelloEntry r.Told) hF))) (ai (Qa (fun r:Ud=>(.bool r.All:Value)) hF) (ai (Qa (fun r:Ud=>(.int .i64 r.Got:Value)) hF) (ai (Qa (fun r:Ud=>(.bool r.Full:Value)) hF) (ai ((Imp.nil 5 eHelloRoute).trans (Imp.of_eq (Qa (fun r:Ud=>Dat.l 5 eHelloRoute r.Heard) hF))) (ai (Qa (fun r:Ud=>(.int .i64 r.Keep:Value)) hF) trivial)))))))))))))))))))))) (condT h1 rfl)) (fun h1=>have _:1<=e1.Keys.length/\e1.Keys.length<=3/\e1.Want.length<=8/\e1.Told.length<=8/\e1.Heard.length<=16:=endOkS_T e1 (notEF h1); have _:EndFit e1:=endFitS e1 (notEF h1); have _:0<=e1.Keep/\e1.Keep<=6/\0<=e1.Left/\e1.Left<=4:=endKeep e1 (notEF h1); kc63a e1 uu17 (kg15 (e1.Boot==1000) false e1.Keys w1 (ifb (bif (bif (bif (e1.Boot==1000) then true else (!(F15 e1.Keys w1))) then true else (w1.From != e1.Peer)) then true else (w1.To != e1.Name)) (fun h3=>fi77 e1 w1 e1 (condF h1 (condT h3 rfl))) (fun h3=>have _:=beqF (orF1 (orF1 (orF1 h3))); have _:=bneF (orF2 (orF1 h3)); have _:=bneF (orF2 h3); ifb (bif decide (w1.Boot<e1.PeerBoot) then true else (bif (w1.Boot==e1.PeerBoot) then decide (w1.Turn<=e1.PeerTurn) else false)) (fun h4=>fi77 e1 w1 e1 (condF h1 (condF h3 (condT h4 rfl)))) (fun h4=>have _:=Re (orF1 h4); kc86l e1 w1 uu30 uu11 uu11 (fun gv5=>kc63a (F86 e1 w1) uu17 (fi77 e1 w1 (F86 e1 w1) (condF h1 (condF h3 (condF h4 rfl)))))))))))) uu3
def F79 (w1:Ub) (x9:HelloWord):Ub :=
 bif (decide ((w1.Radio.length:Int)<12)) then (⟨w1.Sides,(w1.Radio++[x9])⟩:Ub) else w1
theorem fi79 (w1:Ub) (x9:HelloWord) (r:Ub) (hF:r=(F79 w1 x9)):(Imp (.l 23 eHelloSide r.Sides) (.l 23 eHelloSide (F79 w1 x9).Sides))/\(Imp (.l 14 eHelloWord r.Radio) (.l 14 eHelloWord (F79 w1 x9).Radio))/\True:=by cases hF; exact ⟨Imp.refl _,Imp.refl _,trivial⟩
def S79 (w1:Ub) (x9:HelloWord):Spec:=⟨[.ot (eHelloWorld w1),.r (.g (eHelloWord x9))],.ag [.ow (.l 23 eHelloSide (F79 w1 x9).Sides),.ow (.l 14 eHelloWord (F79 w1 x9).Radio)],w1.Radio.length<=12⟩
theorem ok79 (w1:Ub) (x9:HelloWord):(S79 w1 x9).ok Try.prog 79 :=
 fnG_ok mixed (fn:=Try.f79) (ct:=.seq .no (.seq (.seq .no (.cond (.reg [(4,.dat (.l 14 eHelloWord (w1.Radio++[x9])))]) .no)) (.seq .no .no))) Try.func79 (fun (hpre0:w1.Radio.length<=12)=>ifd ((w1.Radio.length:Int)<12) (fun h1 _=>ai (appr 14 eHelloWord w1.Radio [x9] fun _=>rfl) (ai (uu8:(w1.Radio++[x9]).length*112<=140737488355328) (fi79 w1 x9 (⟨w1.Sides,(w1.Radio++[x9])⟩:Ub) (condT h1 rfl)))) (fun h1 _=>fi79 w1 x9 w1 (condF h1 rfl))) uu3
def F81 (e1:Ud):Ud :=
 (⟨e1.Name,e1.Peer,e1.Keys,e1.Boot,e1.Want,0,0,0,false,0,0,(⟨0,(⟨0,0,0,0⟩:Ue)⟩:HelloChange),[],false,0,false,[],0⟩:Ud)
theorem fi81 (e1:Ud) (r:Ud) (hF:r=(F81 e1)):((.int .i64 r.Name:Value)=.int .i64 (F81 e1).Name)/\((.int .i64 r.Peer:Value)=.int .i64 (F81 e1).Peer)/\(Imp (.l 2 eHelloKey r.Keys) (.l 2 eHelloKey (F81 e1).Keys))/\((.int .i64 r.Boot:Value)=.int .i64 (F81 e1).Boot)/\(Imp (.l 4 eHelloEntry r.Want) (.l 4 eHelloEntry (F81 e1).Want))/\((.int .i64 r.Turn:Value)=.int .i64 (F81 e1).Turn)/\((.int .i64 r.PeerBoot:Value)=.int .i64 (F81 e1).PeerBoot)/\((.int .i64 r.PeerTurn:Value)=.int .i64 (F81 e1).PeerTurn)/\((.bool r.Up:Value)=.bool (F81 e1).Up)/\((.int .i64 r.Left:Value)=.int .i64 (F81 e1).Left)/\((.int .i64 r.Num:Value)=.int .i64 (F81 e1).Num)/\((.int .i64 r.Under.Kind:Value)=.int .i64 (F81 e1).Under.Kind)/\((.int .i64 r.Under.Entry.Addr:Value)=.int .i64 (F81 e1).Under.Entry.Addr)/\((.int .i64 r.Under.Entry.Len:Value)=.int .i64 (F81 e1).Under.Entry.Len)/\((.int .i64 r.Under.Entry.Cost:Value)=.int .i64 (F81 e1).Under.Entry.Cost)/\((.int .i64 r.Under.Entry.Label:Value)=.int .i64 (F81 e1).Under.Entry.Label)/\(Imp (.l 4 eHelloEntry r.Told) (.l 4 eHelloEntry (F81 e1).Told))/\((.bool r.All:Value)=.bool (F81 e1).All)/\((.int .i64 r.Got:Value)=.int .i64 (F81 e1).Got)/\((.bool r.Full:Value)=.bool (F81 e1).Full)/\(Imp (.l 5 eHelloRoute r.Heard) (.l 5 eHelloRoute (F81 e1).Heard))/\((.int .i64 r.Keep:Value)=.int .i64 (F81 e1).Keep)/\True:=by cases hF; exact ⟨rfl,rfl,Imp.refl _,rfl,Imp.refl _,rfl,rfl,rfl,rfl,rfl,rfl,rfl,rfl,rfl,rfl,rfl,Imp.refl _,rfl,rfl,rfl,Imp.refl _,rfl,trivial⟩
def S81 (e1:Ud):Spec:=⟨[.r (.g (eHelloEnd e1))],.ag [.v (vI (F81 e1).Name),.v (vI (F81 e1).Peer),.ow (.l 2 eHelloKey (F81 e1).Keys),.v (vI (F81 e1).Boot),.ow (.l 4 eHelloEntry (F81 e1).Want),.v (vI (F81 e1).Turn),.v (vI (F81 e1).PeerBoot),.v (vI (F81 e1).PeerTurn),.v (.bool (F81 e1).Up),.v (vI (F81 e1).Left),.v (vI (F81 e1).Num),.v (vI (F81 e1).Under.Kind),.v (vI (F81 e1).Under.Entry.Addr),.v (vI (F81 e1).Under.Entry.Len),.v (vI (F81 e1).Under.Entry.Cost),.v (vI (F81 e1).Under.Entry.Label),.ow (.l 4 eHelloEntry (F81 e1).Told),.v (.bool (F81 e1).All),.v (vI (F81 e1).Got),.v (.bool (F81 e1).Full),.ow (.l 5 eHelloRoute (F81 e1).Heard),.v (vI (F81 e1).Keep)],smallE e1⟩
theorem ok81 (e1:Ud):(S81 e1).ok Try.prog 81 :=
 fnG_ok mixed (fn:=Try.f81) (ct:=.seq .no (.seq (.reg [(11,.call 63 (S63 (⟨e1.Name,e1.Peer,e1.Keys,e1.Boot,e1.Want,0,0,0,false,0,0,(⟨0,(⟨0,0,0,0⟩:Ue)⟩:HelloChange),[],false,0,false,[],0⟩:Ud) (⟨e1.Name,e1.Peer,e1.Keys,e1.Boot,e1.Want,0,0,0,false,0,0,(⟨0,(⟨0,0,0,0⟩:Ue)⟩:HelloChange),[],false,0,false,[],0⟩:Ud)) (oa63 (⟨e1.Name,e1.Peer,e1.Keys,e1.Boot,e1.Want,0,0,0,false,0,0,(⟨0,(⟨0,0,0,0⟩:Ue)⟩:HelloChange),[],false,0,false,[],0⟩:Ud)) none)]) .no)) Try.func81 (fun (hpre0:smallE e1)=>ai (uu17:smallE (⟨e1.Name,e1.Peer,e1.Keys,e1.Boot,e1.Want,0,0,0,false,0,0,(⟨0,(⟨0,0,0,0⟩:Ue)⟩:HelloChange),[],false,0,false,[],0⟩:Ud)) (ai (ai (Imp.refl (.v (vI e1.Name))) (ai (Imp.refl (.v (vI e1.Peer))) (ai (Imp.refl (.l 2 eHelloKey e1.Keys)) (ai (Imp.refl (.v (vI e1.Boot))) (ai (Imp.refl (.l 4 eHelloEntry e1.Want)) (ai (Imp.refl (.v (vI 0))) (ai (Imp.refl (.v (vI 0))) (ai (Imp.refl (.v (vI 0))) (ai (Imp.refl (.v (.bool false))) (ai (Imp.refl (.v (vI 0))) (ai (Imp.refl (.v (vI 0))) (ai (Imp.refl (.v (vI 0))) (ai (Imp.refl (.v (vI 0))) (ai (Imp.refl (.v (vI 0))) (ai (Imp.refl (.v (vI 0))) (ai (Imp.refl (.v (vI 0))) (ai (Imp.nil 4 eHelloEntry) (ai (Imp.refl (.v (.bool false))) (ai (Imp.refl (.v (vI 0))) (ai (Imp.refl (.v (.bool false))) (ai (Imp.nil 5 eHelloRoute) (ai (Imp.refl (.v (vI 0))) trivial)))))))))))))))))))))) (fi81 e1 (⟨e1.Name,e1.Peer,e1.Keys,e1.Boot,e1.Want,0,0,0,false,0,0,(⟨0,(⟨0,0,0,0⟩:Ue)⟩:HelloChange),[],false,0,false,[],0⟩:Ud) rfl))) uu3
def F83_s0 (w1:Ub):(List HelloWord×Int)->Lp (List HelloWord×Int) (List HelloWord):=fun (out,i40) =>
 bif (decide (i40<(w1.Radio.length:Int))) then (bif (bif (F15 (w1.Sides.getD (Int.toNat 0) default).End.Keys (w1.Radio.getD i40.toNat default)) then true else (F15 (w1.Sides.getD (Int.toNat 1) default).End.Keys (w1.Radio.getD i40.toNat default))) then (.next ((out++[(w1.Radio.getD i40.toNat default)]),(i40+1))) else (.next (out,(i40+1)))) else (.done (out,i40))
def F83 (w1:Ub):List HelloWord :=
 (runL (F83_s0 w1) (((w1.Radio.length:Int)-0).toNat+1) (([]:List HelloWord),0)).fin (fun r=>r) (fun (out,i40)=>out)
abbrev lN83_0 (w1:Ub):Nat×(List HelloWord×Int):=((((w1.Radio.length:Int)-0).toNat+1),(([]:List HelloWord),0))
abbrev lI83_0 (w1:Ub) (m39:Nat) (out:List HelloWord) (i40:Int):Prop:=Int.toNat ((w1.Radio.length:Int)-i40)<m39/\(out.length:Int)<=i40/\(0:Int)<=i40
abbrev lX83_0 (w1:Ub):Lp (List HelloWord×Int) (List HelloWord):=LpX (F83_s0 w1) (lN83_0 w1)
abbrev lJ83_0 (w1:Ub) (i:Nat×(List HelloWord×Int)):Prop:=LpJ (F83_s0 w1) (lN83_0 w1) i (lI83_0 w1 i.1 i.2.1 i.2.2)
abbrev lH83_0 (w1:Ub) (i:Nat×(List HelloWord×Int)) (m39:Nat) (out:List HelloWord) (i40:Int):Prop:=LpH (F83_s0 w1) (lN83_0 w1) i m39 (out,i40) (lI83_0 w1 (m39+1) out i40)
abbrev lE83_0 (w1:Ub) (out:List HelloWord) (i40:Int) (out_:List HelloWord) (i40_:Int) (K39:Prop):Prop:=((.int .i64 i40:Value)=.int .i64 i40_)/\(Im (.l 23 eHelloSide w1.Sides))/\(Im (.l 14 eHelloWord w1.Radio))/\(Imp (.l 14 eHelloWord out) (.l 14 eHelloWord out_))/\K39
theorem un83_0 (w1:Ub) (i:Nat×(List HelloWord×Int)) (h:lJ83_0 w1 i):lH83_0 w1 i (i.1-1) i.2.1 i.2.2:=⟨hd1 h.1 h.2.1,hd3 h.2.1,hd2 h.2.1,h.2.2⟩
theorem bk83_0 (w1:Ub) (i:Nat×(List HelloWord×Int)) (m39:Nat) (out:List HelloWord) (i40:Int) (hl:m39<i.1) (e:runL (F83_s0 w1) m39 (out,i40)=lX83_0 w1) (h:lI83_0 w1 m39 out i40):∃ j:Nat×(List HelloWord×Int),lE83_0 w1 out i40 j.2.1 j.2.2 (lJ83_0 w1 j/\j.1<i.1):=⟨(m39,(out,i40)),rfl,Imp.refl _,Imp.refl _,Imp.refl _,⟨e,h⟩,hl⟩
theorem en83_0 (w1:Ub) (h:(([]:List HelloWord).length:Int)<=0/\(0:Int)<=0):lE83_0 w1 ([]:List HelloWord) 0 ([]:List HelloWord) 0 (lJ83_0 w1 (lN83_0 w1)):=⟨rfl,Imp.refl _,Imp.refl _,Imp.refl _,rfl,Qr _,h⟩
theorem fi83 (w1:Ub) (r:List HelloWord) (hF:r=(F83 w1)):(Imp (.l 14 eHelloWord r) (.l 14 eHelloWord (F83 w1)))/\True:=by cases hF; exact ⟨Imp.refl _,trivial⟩
def S83 (w1:Ub):Spec:=⟨[.r (.g (eHelloWorld w1))],.ow (.l 14 eHelloWord (F83 w1)),w1.Sides.length=2/\w1.Radio.length<=12⟩
abbrev q83_1 (w1:Ub) (i40:Int):=(w1.Radio.getD i40.toNat default)
abbrev q83_2 (w1:Ub) (i40:Int):=(F15 (w1.Sides.getD (Int.toNat 0) default).End.Keys (q83_1 w1 i40))
theorem ok83 (w1:Ub):(S83 w1).ok Try.prog 83 :=
 fnG_ok mixed (fn:=Try.f83) (ct:=.seq .no (.seq (.reg [(0,.dat (.l 14 eHelloWord ([]:List HelloWord)))]) (.seq (.seqk [(1,0),(1,1),(3,0)] .no (.blk (.loop (ι:=Nat×(List HelloWord×Int)) (fun i=>(fun (out:List HelloWord) (i40:Int)=>(⟨[(1,some (.p 0 0)),(3,some (.h 3 0)),(4,some (.v (vI i40)))],[(0,some (.box 82 [.h 1 0,.h 2 0])),(1,some (.shr none (.l 23 eHelloSide w1.Sides))),(2,some (.shr none (.l 14 eHelloWord w1.Radio))),(3,some (.own 3 (.l 14 eHelloWord out)))],4⟩:St)) i.2.1 i.2.2) (lJ83_0 w1) (fun i=>i.1) (lN83_0 w1) (fun i=>(fun (out:List HelloWord) (i40:Int)=>(.seq (.seq .no (.cond .no .no)) (.seq (.blk (.seq (.reg [(11,kh15 (w1.Sides.getD (Int.toNat 0) default).End.Keys (q83_1 w1 i40)),(24,kh15 (w1.Sides.getD (Int.toNat 1) default).End.Keys (q83_1 w1 i40))]) (.cond (.reg [(7,.dat (.l 14 eHelloWord (out++[(q83_1 w1 i40)])))]) .no))) (.reg [(1,.bnd)])))) i.2.1 i.2.2)))) (.seq .no .no)))) Try.func83 (fun (hp:w1.Sides.length=2/\w1.Radio.length<=12)=>have hpre0:=hp.1; have hpre1:=hp.2; ai (bokr 14 eHelloWord ([]:List HelloWord) fun _=>rfl) (kn w1.Sides fun _=>kn w1.Radio fun _=>kn ([]:List HelloWord) fun _=>ai (en83_0 w1 uu23) (fun (i0:Nat×(List HelloWord×Int)) (hi0:lJ83_0 w1 i0)=>(fun (m0:Nat) (out:List HelloWord) (i40:Int) (hh0:lH83_0 w1 i0 m0 out i40)=>have hI0:=hh0.1; have hl0:=hh0.2.1; have _:=hh0.2.2.1; have _:=hh0.2.2.2; ifd (i40<(w1.Radio.length:Int)) (fun h2 _=>ai (uu1:ib 0 w1.Sides) (ai (uu1:ib i40 w1.Radio) (kc15 (w1.Sides.getD (Int.toNat 0) default).End.Keys (q83_1 w1 i40) (ai (fun k3:(q83_2 w1 i40)=false=>(uu1:ib 1 w1.Sides)) (ai (fun k4:(q83_2 w1 i40)=false=>(uu1:ib i40 w1.Radio)) (kg15 (q83_2 w1 i40) false (w1.Sides.getD (Int.toNat 1) default).End.Keys (q83_1 w1 i40) (ifb (bif (q83_2 w1 i40) then true else (F15 (w1.Sides.getD (Int.toNat 1) default).End.Keys (q83_1 w1 i40))) (fun h6=>ai (uu1:ib i40 w1.Radio) (ai (appr 14 eHelloWord out [(q83_1 w1 i40)] fun _=>rfl) (ai (uu8:(out++[(q83_1 w1 i40)]).length*112<=140737488355328) (ai (iok (i40+1) uu1) (bk83_0 w1 i0 m0 (out++[(q83_1 w1 i40)]) (i40+1) hl0 (runL_next hI0 (condT h2 (condT h6 rfl))) uu19))))) (fun h6=>ai (iok (i40+1) uu1) (bk83_0 w1 i0 m0 out (i40+1) hl0 (runL_next hI0 (condT h2 (condF h6 rfl))) uu19))))))))) (fun h2 _=>have hD0_7:lX83_0 w1=Lp.done (out,i40):=runL_done hI0 (condF h2 rfl); fi83 w1 out (finD hD0_7 rfl))) (i0.1-1) i0.2.1 i0.2.2 (un83_0 w1 i0 hi0)))) uu3
structure HelloEvent where
 Kind:Int
 At:Int
 Want:List Ue
 Keys:List HelloKey
 Word:HelloWord
 deriving DecidableEq,Inhabited
def eHelloEvent (x:HelloEvent):List Dat:=[.v (vI x.Kind),.v (vI x.At),.l 4 eHelloEntry x.Want,.l 2 eHelloKey x.Keys,.v (vI x.Word.From),.v (vI x.Word.To),.v (vI x.Word.Key),.v (vI x.Word.Boot),.v (vI x.Word.Yours),.v (vI x.Word.Turn),.v (vI x.Word.Num),.v (vI x.Word.Heard),.v (vI x.Word.Change.Kind),.v (vI x.Word.Change.Entry.Addr),.v (vI x.Word.Change.Entry.Len),.v (vI x.Word.Change.Entry.Cost),.v (vI x.Word.Change.Entry.Label),.v (vI x.Word.Sum)]
theorem kc78 (e1:Ud) {K_:Prop} (k_:K_):(True)/\(Imps (eHelloEnd e1) (eHelloEnd e1))/\K_:=⟨trivial,Imps.refl _,k_⟩
abbrev kh78 (e1:Ud):Hint true Try.prog:=.call 78 (S78 e1) (ok78 e1) none
theorem kc80 (e1:Ud) {K_:Prop} (k_:K_):(True)/\(Imps (eHelloEnd e1) (eHelloEnd e1))/\K_:=⟨trivial,Imps.refl _,k_⟩
abbrev kh80 (e1:Ud):Hint true Try.prog:=.call 80 (S80 e1) (ok80 e1) none
theorem kc81 (e1:Ud) {K_:Prop} (p0_:smallE e1) (k_:K_):(smallE e1)/\(Imps (eHelloEnd e1) (eHelloEnd e1))/\K_:=⟨p0_,Imps.refl _,k_⟩
abbrev kh81 (e1:Ud):Hint true Try.prog:=.call 81 (S81 e1) (ok81 e1) none
theorem kc83 (w1:Ub) {K_:Prop} (p0_:w1.Sides.length=2) (p1_:w1.Radio.length<=12) (k_:K_):(w1.Sides.length=2/\w1.Radio.length<=12)/\(Imps (eHelloWorld w1) (eHelloWorld w1))/\K_:=⟨⟨p0_,p1_⟩,Imps.refl _,k_⟩
abbrev kh83 (w1:Ub):Hint true Try.prog:=.call 83 (S83 w1) (ok83 w1) none
def F73 (w1:Ub) (e1:HelloEvent):Ub :=
 bif (!(decide (0<=e1.At/\e1.At<=1))) then w1 else (bif (e1.Kind==1) then (bif (w1.Sides.getD (Int.toNat e1.At) default).Up then (bif (F78 (w1.Sides.getD (Int.toNat e1.At) default).End).2.2 then (F79 ⟨(w1.Sides.set e1.At.toNat (⟨(w1.Sides.getD (Int.toNat e1.At) default).Up,(F78 (w1.Sides.getD (Int.toNat e1.At) default).End).1⟩:Uc)),w1.Radio⟩ (F78 (w1.Sides.getD (Int.toNat e1.At) default).End).2.1) else (⟨(w1.Sides.set e1.At.toNat (⟨(w1.Sides.getD (Int.toNat e1.At) default).Up,(F78 (w1.Sides.getD (Int.toNat e1.At) default).End).1⟩:Uc)),w1.Radio⟩:Ub)) else w1) else (bif (e1.Kind==5) then (bif (w1.Sides.getD (Int.toNat e1.At) default).Up then (⟨(w1.Sides.set e1.At.toNat (⟨(w1.Sides.getD (Int.toNat e1.At) default).Up,(F80 (w1.Sides.getD (Int.toNat e1.At) default).End)⟩:Uc)),w1.Radio⟩:Ub) else w1) else (bif (e1.Kind==6) then (⟨(w1.Sides.set e1.At.toNat (⟨false,(F81 (w1.Sides.getD (Int.toNat e1.At) default).End)⟩:Uc)),w1.Radio⟩:Ub) else (bif (e1.Kind==7) then (bif (!(w1.Sides.getD (Int.toNat e1.At) default).Up) then (⟨(w1.Sides.set e1.At.toNat (⟨true,(F82 (w1.Sides.getD (Int.toNat e1.At) default).End)⟩:Uc)),w1.Radio⟩:Ub) else w1) else (bif (e1.Kind==8) then (bif (F8 e1.Want) then (⟨(w1.Sides.set e1.At.toNat (⟨(w1.Sides.getD (Int.toNat e1.At) default).Up,(⟨(w1.Sides.getD (Int.toNat e1.At) default).End.Name,(w1.Sides.getD (Int.toNat e1.At) default).End.Peer,(w1.Sides.getD (Int.toNat e1.At) default).End.Keys,(w1.Sides.getD (Int.toNat e1.At) default).End.Boot,e1.Want,(w1.Sides.getD (Int.toNat e1.At) default).End.Turn,(w1.Sides.getD (Int.toNat e1.At) default).End.PeerBoot,(w1.Sides.getD (Int.toNat e1.At) default).End.PeerTurn,(w1.Sides.getD (Int.toNat e1.At) default).End.Up,(w1.Sides.getD (Int.toNat e1.At) default).End.Left,(w1.Sides.getD (Int.toNat e1.At) default).End.Num,(w1.Sides.getD (Int.toNat e1.At) default).End.Under,(w1.Sides.getD (Int.toNat e1.At) default).End.Told,(w1.Sides.getD (Int.toNat e1.At) default).End.All,(w1.Sides.getD (Int.toNat e1.At) default).End.Got,(w1.Sides.getD (Int.toNat e1.At) default).End.Full,(w1.Sides.getD (Int.toNat e1.At) default).End.Heard,(w1.Sides.getD (Int.toNat e1.At) default).End.Keep⟩:Ud)⟩:Uc)),w1.Radio⟩:Ub) else w1) else (bif (e1.Kind==9) then (bif (F10 e1.Keys) then (⟨(w1.Sides.set e1.At.toNat (⟨(w1.Sides.getD (Int.toNat e1.At) default).Up,(⟨(w1.Sides.getD (Int.toNat e1.At) default).End.Name,(w1.Sides.getD (Int.toNat e1.At) default).End.Peer,e1.Keys,(w1.Sides.getD (Int.toNat e1.At) default).End.Boot,(w1.Sides.getD (Int.toNat e1.At) default).End.Want,(w1.Sides.getD (Int.toNat e1.At) default).End.Turn,(w1.Sides.getD (Int.toNat e1.At) default).End.PeerBoot,(w1.Sides.getD (Int.toNat e1.At) default).End.PeerTurn,(w1.Sides.getD (Int.toNat e1.At) default).End.Up,(w1.Sides.getD (Int.toNat e1.At) default).End.Left,(w1.Sides.getD (Int.toNat e1.At) default).End.Num,(w1.Sides.getD (Int.toNat e1.At) default).End.Under,(w1.Sides.getD (Int.toNat e1.At) default).End.Told,(w1.Sides.getD (Int.toNat e1.At) default).End.All,(w1.Sides.getD (Int.toNat e1.At) default).End.Got,(w1.Sides.getD (Int.toNat e1.At) default).End.Full,(w1.Sides.getD (Int.toNat e1.At) default).End.Heard,(w1.Sides.getD (Int.toNat e1.At) default).End.Keep⟩:Ud)⟩:Uc)),(F83 w1)⟩:Ub) else w1) else w1))))))
theorem fi73 (w1:Ub) (e1:HelloEvent) (r:Ub) (hF:r=(F73 w1 e1)):(Imp (.l 23 eHelloSide r.Sides) (.l 23 eHelloSide (F73 w1 e1).Sides))/\(Imp (.l 14 eHelloWord r.Radio) (.l 14 eHelloWord (F73 w1 e1).Radio))/\True:=by cases hF; exact ⟨Imp.refl _,Imp.refl _,trivial⟩
def S73 (w1:Ub) (e1:HelloEvent):Spec:=⟨[.ot (eHelloWorld w1),.r (.g (eHelloEvent e1))],.ag [.ow (.l 23 eHelloSide (F73 w1 e1).Sides),.ow (.l 14 eHelloWord (F73 w1 e1).Radio)],F65 w1=true/\w1.Sides.length=2/\(∀ k:Nat,EndFit (w1.Sides.getD k default).End)/\w1.Radio.length<=12⟩
abbrev q73_1 (w1:Ub) (e1:HelloEvent):=(w1.Sides.getD (Int.toNat e1.At) default)
abbrev q73_2 (w1:Ub) (e1:HelloEvent):=(⟨(q73_1 w1 e1).Up,(⟨(q73_1 w1 e1).End.Name,(q73_1 w1 e1).End.Peer,(q73_1 w1 e1).End.Keys,(q73_1 w1 e1).End.Boot,e1.Want,(q73_1 w1 e1).End.Turn,(q73_1 w1 e1).End.PeerBoot,(q73_1 w1 e1).End.PeerTurn,(q73_1 w1 e1).End.Up,(q73_1 w1 e1).End.Left,(q73_1 w1 e1).End.Num,(q73_1 w1 e1).End.Under,(q73_1 w1 e1).End.Told,(q73_1 w1 e1).End.All,(q73_1 w1 e1).End.Got,(q73_1 w1 e1).End.Full,(q73_1 w1 e1).End.Heard,(q73_1 w1 e1).End.Keep⟩:Ud)⟩:Uc)
abbrev q73_3 (w1:Ub) (e1:HelloEvent):=(⟨(q73_1 w1 e1).Up,(⟨(q73_1 w1 e1).End.Name,(q73_1 w1 e1).End.Peer,e1.Keys,(q73_1 w1 e1).End.Boot,(q73_1 w1 e1).End.Want,(q73_1 w1 e1).End.Turn,(q73_1 w1 e1).End.PeerBoot,(q73_1 w1 e1).End.PeerTurn,(q73_1 w1 e1).End.Up,(q73_1 w1 e1).End.Left,(q73_1 w1 e1).End.Num,(q73_1 w1 e1).End.Under,(q73_1 w1 e1).End.Told,(q73_1 w1 e1).End.All,(q73_1 w1 e1).End.Got,(q73_1 w1 e1).End.Full,(q73_1 w1 e1).End.Heard,(q73_1 w1 e1).End.Keep⟩:Ud)⟩:Uc)
abbrev q73_4 (w1:Ub) (e1:HelloEvent):=(⟨(w1.Sides.set e1.At.toNat (⟨(q73_1 w1 e1).Up,(F78 (q73_1 w1 e1).End).1⟩:Uc)),w1.Radio⟩:Ub)
abbrev q73_5 (w1:Ub) (e1:HelloEvent):=((w1.Sides.map hz).set e1.At.toNat ((q73_1 w1 e1),true))
theorem ok73 (w1:Ub) (e1:HelloEvent):(S73 w1 e1).ok Try.prog 73 :=
 fnG_ok mixed (fn:=Try.f73) (ct:=.seq .no (.seq (.seq (.reg [(2,kh32a e1.At 0 1)]) (.cond (.seq .no .no) .no)) (.seq .no (.seq (.seq .no (.blk (.seq .no (.cond (.seq .no (.cond (.seq (.reg [(2,kh78 (q73_1 w1 e1).End)]) (.seq (.reg [(7,.dat (.l 23 eHelloSide (w1.Sides.set e1.At.toNat (⟨(q73_1 w1 e1).Up,(F78 (q73_1 w1 e1).End).1⟩:Uc))))]) (.seq .no (.cond (.seq (.reg [(2,.call 79 (S79 (q73_4 w1 e1) (F78 (q73_1 w1 e1).End).2.1) (ok79 (q73_4 w1 e1) (F78 (q73_1 w1 e1).End).2.1) none)]) .no) .no)))) .no)) (.seq .no (.cond (.seq .no (.cond (.reg [(6,kh80 (q73_1 w1 e1).End),(9,.dat (.l 23 eHelloSide (w1.Sides.set e1.At.toNat (⟨(q73_1 w1 e1).Up,(F80 (q73_1 w1 e1).End)⟩:Uc))))]) .no)) (.seq .no (.cond (.reg [(6,kh81 (q73_1 w1 e1).End),(9,.dat (.l 23 eHelloSide (w1.Sides.set e1.At.toNat (⟨false,(F81 (q73_1 w1 e1).End)⟩:Uc))))]) (.seq .no (.cond (.seq .no (.cond (.tkr 5 (.l 23 (encHs eHelloSide) (q73_5 w1 e1)) [(6,kh82l (q73_1 w1 e1).End),(8,.ix [.v (.bool (q73_1 w1 e1).Up),.v (vI (q73_1 w1 e1).End.Name),.v (vI (q73_1 w1 e1).End.Peer),.any,.v (vI (q73_1 w1 e1).End.Boot),.any,.v (vI (q73_1 w1 e1).End.Turn),.v (vI (q73_1 w1 e1).End.PeerBoot),.v (vI (q73_1 w1 e1).End.PeerTurn),.v (.bool (q73_1 w1 e1).End.Up),.v (vI (q73_1 w1 e1).End.Left),.v (vI (q73_1 w1 e1).End.Num),.v (vI (q73_1 w1 e1).End.Under.Kind),.v (vI (q73_1 w1 e1).End.Under.Entry.Addr),.v (vI (q73_1 w1 e1).End.Under.Entry.Len),.v (vI (q73_1 w1 e1).End.Under.Entry.Cost),.v (vI (q73_1 w1 e1).End.Under.Entry.Label),.any,.v (.bool (q73_1 w1 e1).End.All),.v (vI (q73_1 w1 e1).End.Got),.v (.bool (q73_1 w1 e1).End.Full),.any,.v (vI (q73_1 w1 e1).End.Keep)]),(9,.dat (.l 23 eHelloSide (w1.Sides.set e1.At.toNat (⟨true,(F82 (q73_1 w1 e1).End)⟩:Uc))))]) .no)) (.seq .no (.cond (.seq (.reg [(2,kh8l e1.Want)]) (.cond (.reg [(6,kh42a e1.Want),(10,.dat (.l 23 eHelloSide (w1.Sides.set e1.At.toNat (q73_2 w1 e1))))]) .no)) (.seq .no (.cond (.seq (.reg [(2,kh10l e1.Keys)]) (.cond (.seq (.reg [(1,kh83 w1)]) (.reg [(6,kh44a e1.Keys),(10,.dat (.l 23 eHelloSide (w1.Sides.set e1.At.toNat (q73_3 w1 e1))))])) .no)) .no)))))))))))))) (.seq .no .no))))) Try.func73 (fun (hp:F65 w1=true/\w1.Sides.length=2/\(∀ k:Nat,EndFit (w1.Sides.getD k default).End)/\w1.Radio.length<=12)=>have hpre0:=hp.1; have hpre1:=hp.2.1; have hpre2:=hp.2.2.1; have hpre3:=hp.2.2.2; kc32a e1.At 0 1 (ifb (!(decide (0<=e1.At/\e1.At<=1))) (fun h1=>have _:=Re (notET h1); fi73 w1 e1 w1 (condT h1 rfl)) (fun h1=>have _:=Qc (notEF h1); ai (uu1:ib e1.At w1.Sides) (ife e1.Kind 1 (fun h2 _=>ifb (q73_1 w1 e1).Up (fun h3=>kc78 (q73_1 w1 e1).End (ai (uu1:ib e1.At w1.Sides) (ai (setr 23 eHelloSide w1.Sides e1.At.toNat (⟨(q73_1 w1 e1).Up,(F78 (q73_1 w1 e1).End).1⟩:Uc)) (ifb (F78 (q73_1 w1 e1).End).2.2 (fun h4=>ai (uu12:w1.Radio.length<=12) (ai (Imps.refl (eHelloWorld (q73_4 w1 e1))) (ai (Imps.refl (eHelloWord (F78 (q73_1 w1 e1).End).2.1)) (fi73 w1 e1 (F79 (q73_4 w1 e1) (F78 (q73_1 w1 e1).End).2.1) (condF h1 (condT h2 (condT h3 (condT h4 rfl)))))))) (fun h4=>fi73 w1 e1 (q73_4 w1 e1) (condF h1 (condT h2 (condT h3 (condF h4 rfl))))))))) (fun h3=>fi73 w1 e1 w1 (condF h1 (condT h2 (condF h3 rfl))))) (fun h2 _=>ife e1.Kind 5 (fun h5 _=>ifb (q73_1 w1 e1).Up (fun h6=>kc80 (q73_1 w1 e1).End (ai (uu1:ib e1.At w1.Sides) (ai (setr 23 eHelloSide w1.Sides e1.At.toNat (⟨(q73_1 w1 e1).Up,(F80 (q73_1 w1 e1).End)⟩:Uc)) (fi73 w1 e1 (⟨(w1.Sides.set e1.At.toNat (⟨(q73_1 w1 e1).Up,(F80 (q73_1 w1 e1).End)⟩:Uc)),w1.Radio⟩:Ub) (condF h1 (condF h2 (condT h5 (condT h6 rfl)))))))) (fun h6=>fi73 w1 e1 w1 (condF h1 (condF h2 (condT h5 (condF h6 rfl)))))) (fun h5 _=>ife e1.Kind 6 (fun h7 _=>kc81 (q73_1 w1 e1).End uu38 (ai (uu1:ib e1.At w1.Sides) (ai (setr 23 eHelloSide w1.Sides e1.At.toNat (⟨false,(F81 (q73_1 w1 e1).End)⟩:Uc)) (fi73 w1 e1 (⟨(w1.Sides.set e1.At.toNat (⟨false,(F81 (q73_1 w1 e1).End)⟩:Uc)),w1.Radio⟩:Ub) (condF h1 (condF h2 (condF h5 (condT h7 rfl)))))))) (fun h7 _=>ife e1.Kind 7 (fun h8 _=>ifb (!(q73_1 w1 e1).Up) (fun h9=>have _:=(notET h9); ai (SetOK.takeA eHelloSide w1.Sides (q73_1 w1 e1) rfl rfl:SetOK (.l 23 eHelloSide w1.Sides) e1.At.toNat (eHelloSide (q73_1 w1 e1)) (maskD (eHelloSide (q73_1 w1 e1))) (.l 23 (encHs eHelloSide) (q73_5 w1 e1))) (kc82l (q73_1 w1 e1).End uu38 (fun gv10=>ai (by simp only [lens] at*<;> omega:0<=e1.At/\e1.At<((q73_5 w1 e1).length:Int)) (ai (Imps.of_eq (Qa (encHs eHelloSide) (getD_set_eq (w1.Sides.map hz) e1.At.toNat ((q73_1 w1 e1),true) (by simp only [lens] at*<;> omega)))) (ai (SetOK.fillA eHelloSide w1.Sides (q73_1 w1 e1) (⟨true,(F82 (q73_1 w1 e1).End)⟩:Uc) (Qa (encHs eHelloSide) (getD_set_eq (w1.Sides.map hz) e1.At.toNat ((q73_1 w1 e1),true) (by simp only [lens] at*<;> omega))) (by exact ai ir (ai ir (ai ir (ai ir (ai ir (ai ir (ai ir (ai ir (ai ir (ai ir (ai ir (ai ir (ai ir (ai ir (ai ir (ai ir (ai ir (ai ir (ai ir (ai ir (ai ir (ai ir (ai ir trivial))))))))))))))))))))))):SetOK (.l 23 (encHs eHelloSide) (q73_5 w1 e1)) e1.At.toNat ([.v (.bool (q73_1 w1 e1).Up),.v (vI (q73_1 w1 e1).End.Name),.v (vI (q73_1 w1 e1).End.Peer),.any,.v (vI (q73_1 w1 e1).End.Boot),.any,.v (vI (q73_1 w1 e1).End.Turn),.v (vI (q73_1 w1 e1).End.PeerBoot),.v (vI (q73_1 w1 e1).End.PeerTurn),.v (.bool (q73_1 w1 e1).End.Up),.v (vI (q73_1 w1 e1).End.Left),.v (vI (q73_1 w1 e1).End.Num),.v (vI (q73_1 w1 e1).End.Under.Kind),.v (vI (q73_1 w1 e1).End.Under.Entry.Addr),.v (vI (q73_1 w1 e1).End.Under.Entry.Len),.v (vI (q73_1 w1 e1).End.Under.Entry.Cost),.v (vI (q73_1 w1 e1).End.Under.Entry.Label),.any,.v (.bool (q73_1 w1 e1).End.All),.v (vI (q73_1 w1 e1).End.Got),.v (.bool (q73_1 w1 e1).End.Full),.any,.v (vI (q73_1 w1 e1).End.Keep)]) [.v (.bool true),.v (vI (F82 (q73_1 w1 e1).End).Name),.v (vI (F82 (q73_1 w1 e1).End).Peer),.l 2 eHelloKey (F82 (q73_1 w1 e1).End).Keys,.v (vI (F82 (q73_1 w1 e1).End).Boot),.l 4 eHelloEntry (F82 (q73_1 w1 e1).End).Want,.v (vI (F82 (q73_1 w1 e1).End).Turn),.v (vI (F82 (q73_1 w1 e1).End).PeerBoot),.v (vI (F82 (q73_1 w1 e1).End).PeerTurn),.v (.bool (F82 (q73_1 w1 e1).End).Up),.v (vI (F82 (q73_1 w1 e1).End).Left),.v (vI (F82 (q73_1 w1 e1).End).Num),.v (vI (F82 (q73_1 w1 e1).End).Under.Kind),.v (vI (F82 (q73_1 w1 e1).End).Under.Entry.Addr),.v (vI (F82 (q73_1 w1 e1).End).Under.Entry.Len),.v (vI (F82 (q73_1 w1 e1).End).Under.Entry.Cost),.v (vI (F82 (q73_1 w1 e1).End).Under.Entry.Label),.l 4 eHelloEntry (F82 (q73_1 w1 e1).End).Told,.v (.bool (F82 (q73_1 w1 e1).End).All),.v (vI (F82 (q73_1 w1 e1).End).Got),.v (.bool (F82 (q73_1 w1 e1).End).Full),.l 5 eHelloRoute (F82 (q73_1 w1 e1).End).Heard,.v (vI (F82 (q73_1 w1 e1).End).Keep)] (.l 23 eHelloSide (w1.Sides.set e1.At.toNat (⟨true,(F82 (q73_1 w1 e1).End)⟩:Uc)))) (fi73 w1 e1 (⟨(w1.Sides.set e1.At.toNat (⟨true,(F82 (q73_1 w1 e1).End)⟩:Uc)),w1.Radio⟩:Ub) (condF h1 (condF h2 (condF h5 (condF h7 (condT h8 (condT h9 rfl)))))))))))) (fun h9=>have _:=(notEF h9); fi73 w1 e1 w1 (condF h1 (condF h2 (condF h5 (condF h7 (condT h8 (condF h9 rfl)))))))) (fun h8 _=>ife e1.Kind 8 (fun h11 _=>kc8l e1.Want (ifb (F8 e1.Want) (fun h12=>have _:TblOk e1.Want:=tableOkS_T e1.Want h12; have _:e1.Want.length<=8:=tableOkS_len e1.Want h12; kc42a e1.Want uu18 (ai (uu1:ib e1.At w1.Sides) (ai (setr 23 eHelloSide w1.Sides e1.At.toNat (q73_2 w1 e1)) (fi73 w1 e1 (⟨(w1.Sides.set e1.At.toNat (q73_2 w1 e1)),w1.Radio⟩:Ub) (condF h1 (condF h2 (condF h5 (condF h7 (condF h8 (condT h11 (condT h12 rfl))))))))))) (fun h12=>fi73 w1 e1 w1 (condF h1 (condF h2 (condF h5 (condF h7 (condF h8 (condT h11 (condF h12 rfl)))))))))) (fun h11 _=>ife e1.Kind 9 (fun h13 _=>kc10l e1.Keys (ifb (F10 e1.Keys) (fun h14=>have _:1<=e1.Keys.length/\e1.Keys.length<=3:=keysOkS_T e1.Keys h14; kc83 w1 uu13 uu12 (kc44a e1.Keys uu18 (ai (uu1:ib e1.At w1.Sides) (ai (setr 23 eHelloSide w1.Sides e1.At.toNat (q73_3 w1 e1)) (fi73 w1 e1 (⟨(w1.Sides.set e1.At.toNat (q73_3 w1 e1)),(F83 w1)⟩:Ub) (condF h1 (condF h2 (condF h5 (condF h7 (condF h8 (condF h11 (condT h13 (condT h14 rfl))))))))))))) (fun h14=>fi73 w1 e1 w1 (condF h1 (condF h2 (condF h5 (condF h7 (condF h8 (condF h11 (condT h13 (condF h14 rfl))))))))))) (fun h13 _=>fi73 w1 e1 w1 (condF h1 (condF h2 (condF h5 (condF h7 (condF h8 (condF h11 (condF h13 rfl))))))))))))))))) uu3
theorem kc77 (e1:Ud) (w1:HelloWord) {K_:Prop} (k_:K_):(True)/\(Imps (eHelloEnd e1) (eHelloEnd e1))/\(Imps (eHelloWord w1) (eHelloWord w1))/\K_:=⟨trivial,Imps.refl _,Imps.refl _,k_⟩
abbrev kh77 (e1:Ud) (w1:HelloWord):Hint true Try.prog:=.call 77 (S77 e1 w1) (ok77 e1 w1) none
def F72_s0 (w1:Ub) (at':Int):(Int×List Uc)->Lp (Int×List Uc) Ub:=fun (k,xs) =>
 bif (decide (k<2)) then (bif (bif (xs.getD k.toNat default).Up then ((xs.getD k.toNat default).End.Name==(w1.Radio.getD at'.toNat default).To) else false) then (.next ((k+1),(xs.set (k).toNat (⟨(xs.getD k.toNat default).Up,(F77 (xs.getD k.toNat default).End (w1.Radio.getD at'.toNat default))⟩:Uc)))) else (.next ((k+1),xs))) else (.done (k,xs))
def F72 (w1:Ub) (at':Int):Ub :=
 (runL (F72_s0 w1 at') ((Int.toNat (2-0))+1) (0,w1.Sides)).fin (fun r=>r) (fun (k,xs)=>(⟨xs,((([]:List HelloWord)++(w1.Radio.take at'.toNat))++(w1.Radio.drop (at'+1).toNat))⟩:Ub))
abbrev lN72_0 (w1:Ub):Nat×(Int×List Uc):=(((Int.toNat (2-0))+1),(0,w1.Sides))
abbrev lI72_0 (w1:Ub) (m39:Nat) (k:Int) (xs:List Uc):Prop:=Int.toNat (2-k)<m39/\(0:Int)<=k/\xs.length=w1.Sides.length
abbrev lX72_0 (w1:Ub) (at':Int):Lp (Int×List Uc) Ub:=LpX (F72_s0 w1 at') (lN72_0 w1)
abbrev lJ72_0 (w1:Ub) (at':Int) (i:Nat×(Int×List Uc)):Prop:=LpJ (F72_s0 w1 at') (lN72_0 w1) i (lI72_0 w1 i.1 i.2.1 i.2.2)
abbrev lH72_0 (w1:Ub) (at':Int) (i:Nat×(Int×List Uc)) (m39:Nat) (k:Int) (xs:List Uc):Prop:=LpH (F72_s0 w1 at') (lN72_0 w1) i m39 (k,xs) (lI72_0 w1 (m39+1) k xs)
abbrev lE72_0 (w1:Ub) (at':Int) (k:Int) (xs:List Uc) (k_:Int) (xs_:List Uc) (K39:Prop):Prop:=((.int .i64 k:Value)=.int .i64 k_)/\(Imp (.l 23 eHelloSide xs) (.l 23 eHelloSide xs_))/\(Im (.l 14 eHelloWord ((([]:List HelloWord)++(w1.Radio.take at'.toNat))++(w1.Radio.drop (at'+1).toNat))))/\(Rf (.slice none 0 0))/\(Rf (.slice none 0 0))/\(Rf (.int .i64 (w1.Radio.getD at'.toNat default).From))/\(Rf (.int .i64 (w1.Radio.getD at'.toNat default).To))/\(Rf (.int .i64 (w1.Radio.getD at'.toNat default).Key))/\(Rf (.int .i64 (w1.Radio.getD at'.toNat default).Boot))/\(Rf (.int .i64 (w1.Radio.getD at'.toNat default).Yours))/\(Rf (.int .i64 (w1.Radio.getD at'.toNat default).Turn))/\(Rf (.int .i64 (w1.Radio.getD at'.toNat default).Num))/\(Rf (.int .i64 (w1.Radio.getD at'.toNat default).Heard))/\(Rf (.int .i64 (w1.Radio.getD at'.toNat default).Change.Kind))/\(Rf (.int .i64 (w1.Radio.getD at'.toNat default).Change.Entry.Addr))/\(Rf (.int .i64 (w1.Radio.getD at'.toNat default).Change.Entry.Len))/\(Rf (.int .i64 (w1.Radio.getD at'.toNat default).Change.Entry.Cost))/\(Rf (.int .i64 (w1.Radio.getD at'.toNat default).Change.Entry.Label))/\(Rf (.int .i64 (w1.Radio.getD at'.toNat default).Sum))/\K39
theorem un72_0 (w1:Ub) (at':Int) (i:Nat×(Int×List Uc)) (h:lJ72_0 w1 at' i):lH72_0 w1 at' i (i.1-1) i.2.1 i.2.2:=⟨hd1 h.1 h.2.1,hd3 h.2.1,hd2 h.2.1,h.2.2⟩
theorem bk72_0 (w1:Ub) (at':Int) (i:Nat×(Int×List Uc)) (m39:Nat) (k:Int) (xs:List Uc) (hl:m39<i.1) (e:runL (F72_s0 w1 at') m39 (k,xs)=lX72_0 w1 at') (h:lI72_0 w1 m39 k xs):∃ j:Nat×(Int×List Uc),lE72_0 w1 at' k xs j.2.1 j.2.2 (lJ72_0 w1 at' j/\j.1<i.1):=⟨(m39,(k,xs)),rfl,Imp.refl _,Imp.refl _,rfl,rfl,rfl,rfl,rfl,rfl,rfl,rfl,rfl,rfl,rfl,rfl,rfl,rfl,rfl,rfl,⟨e,h⟩,hl⟩
theorem en72_0 (w1:Ub) (at':Int) (h:(0:Int)<=0/\w1.Sides.length=w1.Sides.length):lE72_0 w1 at' 0 w1.Sides 0 w1.Sides (lJ72_0 w1 at' (lN72_0 w1)):=⟨rfl,Imp.refl _,Imp.refl _,rfl,rfl,rfl,rfl,rfl,rfl,rfl,rfl,rfl,rfl,rfl,rfl,rfl,rfl,rfl,rfl,rfl,Qr _,h⟩
theorem fi72 (w1:Ub) (at':Int) (r:Ub) (hF:r=(F72 w1 at')):(Imp (.l 23 eHelloSide r.Sides) (.l 23 eHelloSide (F72 w1 at').Sides))/\(Imp (.l 14 eHelloWord r.Radio) (.l 14 eHelloWord (F72 w1 at').Radio))/\True:=by cases hF; exact ⟨Imp.refl _,Imp.refl _,trivial⟩
def S72 (w1:Ub) (at':Int):Spec:=⟨[.ot (eHelloWorld w1),.r (.c (.v (vI at')))],.ag [.ow (.l 23 eHelloSide (F72 w1 at').Sides),.ow (.l 14 eHelloWord (F72 w1 at').Radio)],F65 w1=true/\w1.Sides.length=2/\(∀ k:Nat,EndFit (w1.Sides.getD k default).End)/\w1.Radio.length<=12/\0<=at'/\at'<(w1.Radio.length:Int)⟩
abbrev q72_1 (w1:Ub) (at':Int):=(([]:List HelloWord)++(w1.Radio.take at'.toNat))
abbrev q72_2 (w1:Ub) (at':Int):=(w1.Radio.getD at'.toNat default)
abbrev q72_3 (w1:Ub) (at':Int):=((q72_1 w1 at')++(w1.Radio.drop (at'+1).toNat))
abbrev q72_4 (xs:List Uc) (k:Int) (w1:Ub) (at':Int):=(⟨(xs.getD k.toNat default).Up,(F77 (xs.getD k.toNat default).End (q72_2 w1 at'))⟩:Uc)
theorem ok72 (w1:Ub) (at':Int):(S72 w1 at').ok Try.prog 72 :=
 fnG_ok mixed (fn:=Try.f72) (ct:=.seq .no (.seq .no (.seq (.reg [(0,.dat (.l 14 eHelloWord ([]:List HelloWord))),(5,.dat (.l 14 eHelloWord (q72_1 w1 at'))),(9,.bnd),(11,.dat (.l 14 eHelloWord (q72_3 w1 at')))]) (.seq (.seqk [(2,0),(2,1)] .no (.blk (.loop (ι:=Nat×(Int×List Uc)) (fun i=>(fun (k:Int) (xs:List Uc)=>(⟨[(2,some (.p 0 0)),(4,some (.p 3 0)),(5,some (.p 4 0)),(6,some (.v (vI k)))],[(0,some (.box 82 [.h 1 0,.h 2 0])),(1,some (.own 1 (.l 23 eHelloSide xs))),(2,some (.own 2 (.l 14 eHelloWord (q72_3 w1 at')))),(3,some (.box 82 [.v (.slice none 0 0),.v (.slice none 0 0)])),(4,some (.box 32 [.v (vI (q72_2 w1 at').From),.v (vI (q72_2 w1 at').To),.v (vI (q72_2 w1 at').Key),.v (vI (q72_2 w1 at').Boot),.v (vI (q72_2 w1 at').Yours),.v (vI (q72_2 w1 at').Turn),.v (vI (q72_2 w1 at').Num),.v (vI (q72_2 w1 at').Heard),.v (vI (q72_2 w1 at').Change.Kind),.v (vI (q72_2 w1 at').Change.Entry.Addr),.v (vI (q72_2 w1 at').Change.Entry.Len),.v (vI (q72_2 w1 at').Change.Entry.Cost),.v (vI (q72_2 w1 at').Change.Entry.Label),.v (vI (q72_2 w1 at').Sum)]))],5⟩:St)) i.2.1 i.2.2) (lJ72_0 w1 at') (fun i=>i.1) (lN72_0 w1) (fun i=>(fun (k:Int) (xs:List Uc)=>(.seq (.seq .no (.cond .no .no)) (.seq (.blk (.seq .no (.cond (.reg [(10,kh77 (xs.getD k.toNat default).End (q72_2 w1 at')),(13,.dat (.l 23 eHelloSide (xs.set (k).toNat (q72_4 xs k w1 at'))))]) .no))) (.reg [(1,.bnd)])))) i.2.1 i.2.2)))) (.seq .no .no))))) Try.func72 (fun (hp:F65 w1=true/\w1.Sides.length=2/\(∀ k:Nat,EndFit (w1.Sides.getD k default).End)/\w1.Radio.length<=12/\0<=at'/\at'<(w1.Radio.length:Int))=>have hpre0:=hp.1; have hpre1:=hp.2.1; have hpre2:=hp.2.2.1; have hpre3:=hp.2.2.2.1; have hpre4:=hp.2.2.2.2.1; have hpre5:=hp.2.2.2.2.2; ai (uu1:ib at' w1.Radio) (ai (bokr 14 eHelloWord ([]:List HelloWord) fun _=>rfl) (ai (uu1:0<=(0:Int)/\(0:Int)<=at'/\at'<=(w1.Radio.length:Int)) (ai (AppL.mk eHelloWord ([]:List HelloWord) (w1.Radio.take at'.toNat) (Imp.refl (.l 14 eHelloWord ([]:List HelloWord))) ir (fun y=>⟨rfl,fun e he=>by simp only [eHelloWord,Qo,Rj,Sz] at he; rcases he with rfl | rfl | rfl | rfl | rfl | rfl | rfl | rfl | rfl | rfl | rfl | rfl | rfl | rfl <;> exact ⟨_,rfl⟩⟩):AppL (.l 14 eHelloWord ([]:List HelloWord)) (.l 14 eHelloWord (w1.Radio.take at'.toNat)) 14 (.l 14 eHelloWord (q72_1 w1 at'))) (ai (uu8:(q72_1 w1 at').length*112<=140737488355328) (ai (iok (at'+1) uu1) (ai (uu1:0<=(at'+1)/\(at'+1)<=(w1.Radio.length:Int)/\(w1.Radio.length:Int)<=(w1.Radio.length:Int)) (ai (AppL.mk eHelloWord (q72_1 w1 at') (w1.Radio.drop (at'+1).toNat) (Imp.refl (.l 14 eHelloWord (q72_1 w1 at'))) ir (fun y=>⟨rfl,fun e he=>by simp only [eHelloWord,Qo,Rj,Sz] at he; rcases he with rfl | rfl | rfl | rfl | rfl | rfl | rfl | rfl | rfl | rfl | rfl | rfl | rfl | rfl <;> exact ⟨_,rfl⟩⟩):AppL (.l 14 eHelloWord (q72_1 w1 at')) (.l 14 eHelloWord (w1.Radio.drop (at'+1).toNat)) 14 (.l 14 eHelloWord (q72_3 w1 at'))) (ai (uu8:(q72_3 w1 at').length*112<=140737488355328) (kn w1.Sides fun _=>kn (q72_3 w1 at') fun _=>ai (en72_0 w1 at' uu23) (fun (i0:Nat×(Int×List Uc)) (hi0:lJ72_0 w1 at' i0)=>(fun (m0:Nat) (k:Int) (xs:List Uc) (hh0:lH72_0 w1 at' i0 m0 k xs)=>have hI0:=hh0.1; have hl0:=hh0.2.1; have _:=hh0.2.2.1; have _:=hh0.2.2.2; ifd (k<2) (fun h2 _=>ai (uu1:ib k xs) (ai (fun k3:(xs.getD k.toNat default).Up=true=>(uu1:ib k xs)) (ifb (bif (xs.getD k.toNat default).Up then ((xs.getD k.toNat default).End.Name==(q72_2 w1 at').To) else false) (fun h4=>have _:=(andT1 h4); have _:=eq_of_beq (andT2 h4); ai (uu1:ib k xs) (kc77 (xs.getD k.toNat default).End (q72_2 w1 at') (ai (uu1:ib k xs) (ai (setr 23 eHelloSide xs (k).toNat (q72_4 xs k w1 at')) (ai (iok (k+1) uu1) (bk72_0 w1 at' i0 m0 (k+1) (xs.set (k).toNat (q72_4 xs k w1 at')) hl0 (runL_next hI0 (condT h2 (condT h4 rfl))) uu19)))))) (fun h4=>ai (iok (k+1) uu1) (bk72_0 w1 at' i0 m0 (k+1) xs hl0 (runL_next hI0 (condT h2 (condF h4 rfl))) uu19))))) (fun h2 _=>have hD0_5:lX72_0 w1 at'=Lp.done (k,xs):=runL_done hI0 (condF h2 rfl); fi72 w1 at' (⟨xs,(q72_3 w1 at')⟩:Ub) (finD hD0_5 rfl))) (i0.1-1) i0.2.1 i0.2.2 (un72_0 w1 at' i0 hi0)))))))))))) uu3
theorem kc79 (w1:Ub) (x9:HelloWord) {K_:Prop} (p0_:w1.Radio.length<=12) (k_:K_):(w1.Radio.length<=12)/\(Imps (eHelloWorld w1) (eHelloWorld w1))/\(Imps (eHelloWord x9) (eHelloWord x9))/\K_:=⟨p0_,Imps.refl _,Imps.refl _,k_⟩
abbrev kh79 (w1:Ub) (x9:HelloWord):Hint true Try.prog:=.call 79 (S79 w1 x9) (ok79 w1 x9) none
def F75 (w1:Ub) (x9:HelloWord):Ub :=
 bif (bif (bif (!(F12 x9)) then true else (F15 (w1.Sides.getD (Int.toNat 0) default).End.Keys x9)) then true else (F15 (w1.Sides.getD (Int.toNat 1) default).End.Keys x9)) then w1 else (F79 w1 x9)
theorem fi75 (w1:Ub) (x9:HelloWord) (r:Ub) (hF:r=(F75 w1 x9)):(Imp (.l 23 eHelloSide r.Sides) (.l 23 eHelloSide (F75 w1 x9).Sides))/\(Imp (.l 14 eHelloWord r.Radio) (.l 14 eHelloWord (F75 w1 x9).Radio))/\True:=by cases hF; exact ⟨Imp.refl _,Imp.refl _,trivial⟩
def S75 (w1:Ub) (x9:HelloWord):Spec:=⟨[.ot (eHelloWorld w1),.r (.g (eHelloWord x9))],.ag [.ow (.l 23 eHelloSide (F75 w1 x9).Sides),.ow (.l 14 eHelloWord (F75 w1 x9).Radio)],w1.Sides.length=2/\w1.Radio.length<=12⟩
theorem ok75 (w1:Ub) (x9:HelloWord):(S75 w1 x9).ok Try.prog 75 :=
 fnG_ok mixed (fn:=Try.f75) (ct:=.seq .no (.seq (.seq (.reg [(1,kh12 x9),(11,kh15 (w1.Sides.getD (Int.toNat 0) default).End.Keys x9),(21,kh15 (w1.Sides.getD (Int.toNat 1) default).End.Keys x9)]) (.cond (.seq .no .no) .no)) (.seq (.reg [(2,kh79 w1 x9)]) .no))) Try.func75 (fun (hp:w1.Sides.length=2/\w1.Radio.length<=12)=>have hpre0:=hp.1; have hpre1:=hp.2; kc12 x9 (ai (fun k1:(!(F12 x9))=false=>(uu0:ib 0 w1.Sides)) (kg15 (!(F12 x9)) false (w1.Sides.getD (Int.toNat 0) default).End.Keys x9 (ai (fun k3:(bif (!(F12 x9)) then true else (F15 (w1.Sides.getD (Int.toNat 0) default).End.Keys x9))=false=>(uu0:ib 1 w1.Sides)) (kg15 (bif (!(F12 x9)) then true else (F15 (w1.Sides.getD (Int.toNat 0) default).End.Keys x9)) false (w1.Sides.getD (Int.toNat 1) default).End.Keys x9 (ifb (bif (bif (!(F12 x9)) then true else (F15 (w1.Sides.getD (Int.toNat 0) default).End.Keys x9)) then true else (F15 (w1.Sides.getD (Int.toNat 1) default).End.Keys x9)) (fun h5=>fi75 w1 x9 w1 (condT h5 rfl)) (fun h5=>kc79 w1 x9 uu12 (fi75 w1 x9 (F79 w1 x9) (condF h5 rfl))))))))) uu3
def F66_s0 (w1:Ub):(Int×List Uc)->Lp (Int×List Uc) Ub:=fun (i40,out) =>
 bif (decide (i40<(w1.Sides.length:Int))) then (.next ((i40+1),(out++[(w1.Sides.getD i40.toNat default)]))) else (.done (i40,out))
def F66 (w1:Ub):Ub :=
 (runL (F66_s0 w1) (((w1.Sides.length:Int)-0).toNat+1) (0,([]:List Uc))).fin (fun r=>r) (fun (i40,out)=>(⟨out,(([]:List HelloWord)++w1.Radio)⟩:Ub))
abbrev lN66_0 (w1:Ub):Nat×(Int×List Uc):=((((w1.Sides.length:Int)-0).toNat+1),(0,([]:List Uc)))
abbrev lI66_0 (w1:Ub) (m39:Nat) (i40:Int) (out:List Uc):Prop:=Int.toNat ((w1.Sides.length:Int)-i40)<m39/\(out.length:Int)<=i40/\(0:Int)<=i40
abbrev lX66_0 (w1:Ub):Lp (Int×List Uc) Ub:=LpX (F66_s0 w1) (lN66_0 w1)
abbrev lJ66_0 (w1:Ub) (i:Nat×(Int×List Uc)):Prop:=LpJ (F66_s0 w1) (lN66_0 w1) i (lI66_0 w1 i.1 i.2.1 i.2.2)
abbrev lH66_0 (w1:Ub) (i:Nat×(Int×List Uc)) (m39:Nat) (i40:Int) (out:List Uc):Prop:=LpH (F66_s0 w1) (lN66_0 w1) i m39 (i40,out) (lI66_0 w1 (m39+1) i40 out)
abbrev lE66_0 (w1:Ub) (i40:Int) (out:List Uc) (i40_:Int) (out_:List Uc) (K39:Prop):Prop:=((.int .i64 i40:Value)=.int .i64 i40_)/\(Im (.l 23 eHelloSide w1.Sides))/\(Im (.l 14 eHelloWord w1.Radio))/\(Rf (.slice none 0 0))/\(Rf (.slice none 0 0))/\(Imp (.l 23 eHelloSide out) (.l 23 eHelloSide out_))/\(Im (.l 14 eHelloWord (([]:List HelloWord)++w1.Radio)))/\K39
theorem un66_0 (w1:Ub) (i:Nat×(Int×List Uc)) (h:lJ66_0 w1 i):lH66_0 w1 i (i.1-1) i.2.1 i.2.2:=⟨hd1 h.1 h.2.1,hd3 h.2.1,hd2 h.2.1,h.2.2⟩
theorem bk66_0 (w1:Ub) (i:Nat×(Int×List Uc)) (m39:Nat) (i40:Int) (out:List Uc) (hl:m39<i.1) (e:runL (F66_s0 w1) m39 (i40,out)=lX66_0 w1) (h:lI66_0 w1 m39 i40 out):∃ j:Nat×(Int×List Uc),lE66_0 w1 i40 out j.2.1 j.2.2 (lJ66_0 w1 j/\j.1<i.1):=⟨(m39,(i40,out)),rfl,Imp.refl _,Imp.refl _,rfl,rfl,Imp.refl _,Imp.refl _,⟨e,h⟩,hl⟩
theorem en66_0 (w1:Ub) (h:(([]:List Uc).length:Int)<=0/\(0:Int)<=0):lE66_0 w1 0 ([]:List Uc) 0 ([]:List Uc) (lJ66_0 w1 (lN66_0 w1)):=⟨rfl,Imp.refl _,Imp.refl _,rfl,rfl,Imp.refl _,Imp.refl _,rfl,Qr _,h⟩
theorem fi66 (w1:Ub) (r:Ub) (hF:r=(F66 w1)):(Imp (.l 23 eHelloSide r.Sides) (.l 23 eHelloSide (F66 w1).Sides))/\(Imp (.l 14 eHelloWord r.Radio) (.l 14 eHelloWord (F66 w1).Radio))/\True:=by cases hF; exact ⟨Imp.refl _,Imp.refl _,trivial⟩
def S66 (w1:Ub):Spec:=⟨[.r (.g (eHelloWorld w1))],.ag [.ow (.l 23 eHelloSide (F66 w1).Sides),.ow (.l 14 eHelloWord (F66 w1).Radio)],w1.Sides.length=2/\(∀ k:Nat,EndFit (w1.Sides.getD k default).End)/\w1.Radio.length<=12⟩
theorem ok66 (w1:Ub):(S66 w1).ok Try.prog 66 :=
 fnG_ok mixed (fn:=Try.f66) (ct:=.seq .no (.seq (.reg [(0,.dat (.l 23 eHelloSide ([]:List Uc))),(1,.dat (.l 14 eHelloWord ([]:List HelloWord))),(4,.dat (.l 14 eHelloWord (([]:List HelloWord)++w1.Radio)))]) (.seq (.seqk [(1,0),(1,1),(3,0),(3,1)] .no (.blk (.loop (ι:=Nat×(Int×List Uc)) (fun i=>(fun (i40:Int) (out:List Uc)=>(⟨[(1,some (.p 0 0)),(2,some (.p 3 0)),(3,some (.p 4 0)),(4,some (.v (vI i40)))],[(0,some (.box 82 [.h 1 0,.h 2 0])),(1,some (.shr none (.l 23 eHelloSide w1.Sides))),(2,some (.shr none (.l 14 eHelloWord w1.Radio))),(3,some (.box 82 [.v (.slice none 0 0),.v (.slice none 0 0)])),(4,some (.box 82 [.h 5 0,.h 6 0])),(5,some (.own 5 (.l 23 eHelloSide out))),(6,some (.own 6 (.l 14 eHelloWord (([]:List HelloWord)++w1.Radio))))],7⟩:St)) i.2.1 i.2.2) (lJ66_0 w1) (fun i=>i.1) (lN66_0 w1) (fun i=>(fun (i40:Int) (out:List Uc)=>(.seq (.seq .no (.cond .no .no)) (.seq (.blk (.reg [(14,kh63a (w1.Sides.getD i40.toNat default).End),(17,.dat (.l 23 eHelloSide (out++[(w1.Sides.getD i40.toNat default)])))])) (.reg [(1,.bnd)])))) i.2.1 i.2.2)))) (.seq .no .no)))) Try.func66 (fun (hp:w1.Sides.length=2/\(∀ k:Nat,EndFit (w1.Sides.getD k default).End)/\w1.Radio.length<=12)=>have hpre0:=hp.1; have hpre1:=hp.2.1; have hpre2:=hp.2.2; ai (bokr 23 eHelloSide ([]:List Uc) fun _=>rfl) (ai (bokr 14 eHelloWord ([]:List HelloWord) fun _=>rfl) (ai (AppL.mk eHelloWord ([]:List HelloWord) w1.Radio (Imp.refl (.l 14 eHelloWord ([]:List HelloWord))) ir (fun y=>⟨rfl,fun e he=>by simp only [eHelloWord,Qo,Rj,Sz] at he; rcases he with rfl | rfl | rfl | rfl | rfl | rfl | rfl | rfl | rfl | rfl | rfl | rfl | rfl | rfl <;> exact ⟨_,rfl⟩⟩):AppL (.l 14 eHelloWord ([]:List HelloWord)) (.l 14 eHelloWord w1.Radio) 14 (.l 14 eHelloWord (([]:List HelloWord)++w1.Radio))) (ai (uu8:(([]:List HelloWord)++w1.Radio).length*112<=140737488355328) (kn w1.Sides fun _=>kn w1.Radio fun _=>kn ([]:List Uc) fun _=>kn (([]:List HelloWord)++w1.Radio) fun _=>ai (en66_0 w1 uu23) (fun (i0:Nat×(Int×List Uc)) (hi0:lJ66_0 w1 i0)=>(fun (m0:Nat) (i40:Int) (out:List Uc) (hh0:lH66_0 w1 i0 m0 i40 out)=>have hI0:=hh0.1; have hl0:=hh0.2.1; have _:=hh0.2.2.1; have _:=hh0.2.2.2; ifd (i40<(w1.Sides.length:Int)) (fun h2 _=>ai (uu1:ib i40 w1.Sides) (ai (uu1:ib i40 w1.Sides) (kc63a (w1.Sides.getD i40.toNat default).End (by first | (first | assumption | (have hq:=(by assumption:smallE e1); unfold smallE at hq ⊢; exact ⟨hq.1,hq.2.1,Rk _,Rk _⟩) | exact EndFit.small (by assumption) | exact EndFit.small (EndFit.side (by assumption) _) | (unfold smallE; omega) | (unfold smallE; dsimp only; omega) | (unfold smallE at *; dsimp only; omega) | (unfold smallE; refine ⟨?_,?_,?_,?_⟩ <;> first | assumption | omega | exact Rk _)) | omega | exact hpre1 _ | (intros; exact trivial) | (intros; exact Rk _)) (ai (appr 23 eHelloSide out [(w1.Sides.getD i40.toNat default)] fun _=>rfl) (ai (uu8:(out++[(w1.Sides.getD i40.toNat default)]).length*248<=140737488355328) (ai (iok (i40+1) uu1) (bk66_0 w1 i0 m0 (i40+1) (out++[(w1.Sides.getD i40.toNat default)]) hl0 (runL_next hI0 (condT h2 rfl)) uu19))))))) (fun h2 _=>have hD0_3:lX66_0 w1=Lp.done (i40,out):=runL_done hI0 (condF h2 rfl); fi66 w1 (⟨out,(([]:List HelloWord)++w1.Radio)⟩:Ub) (finD hD0_3 rfl))) (i0.1-1) i0.2.1 i0.2.2 (un66_0 w1 i0 hi0))))))) uu3
structure Rst (e:Ud):Prop where
 turn:e.Turn=0
 pb:e.PeerBoot=0
 up:e.Up=false
 num:e.Num=0
 un:e.Under.Kind=0
 told:e.Told.length=0
 all:e.All=false
 got:e.Got=0
 full:e.Full=false
 heard:e.Heard.length=0
structure SdOk (s:Uc):Prop where
 en:EOk s.End
 rs:s.Up=true\/Rst s.End
theorem sideOk_iff (s:Uc):F71 s=true↔SdOk s:=by
 unfold F71
 simp only [Rr,Bool.cond_false_left,Q9,Qh,Sk,Bool.not_not,Tk,Tj,endOk_iff]
 constructor
 ·rintro ⟨h,hr⟩
  refine ⟨h,hr.imp id ?_⟩
  rintro ⟨⟨⟨⟨⟨⟨⟨⟨⟨a1,a2⟩,a3⟩,a4⟩,a5⟩,a6⟩,a7⟩,a8⟩,a9⟩,a10⟩
  exact ⟨a1,a2,a3,a4,a5,by omega,a7,a8,a9,by omega⟩
 ·rintro ⟨h,hr⟩
  refine ⟨h,hr.imp id ?_⟩
  rintro ⟨a1,a2,a3,a4,a5,a6,a7,a8,a9,a10⟩
  exact ⟨⟨⟨⟨⟨⟨⟨⟨⟨a1,a2⟩,a3⟩,a4⟩,a5⟩,by omega⟩,a7⟩,a8⟩,a9⟩,by omega⟩
structure WldOk (w:Ub):Prop where
 two:w.Sides.length=2
 s0:SdOk (w.Sides.getD 0 default)
 s1:SdOk (w.Sides.getD 1 default)
 n0:(w.Sides.getD 0 default).End.Name=(w.Sides.getD 1 default).End.Peer
 n1:(w.Sides.getD 1 default).End.Name=(w.Sides.getD 0 default).End.Peer
 rad:w.Radio.length<=12
 wd:∀ x,x∈w.Radio->WdOk x
theorem WldOk.side {w:Ub} (h:WldOk w) {k:Nat} (hk:k<2):SdOk (w.Sides.getD k default):=by
 rcases (uu0:k=0\/k=1) with rfl | rfl
 ·exact h.s0
 ·exact h.s1
theorem worldOk_iff (w:Ub):F65 w=true↔WldOk w:=by
 have hz:Int.toNat 0=0:=rfl
 have ho:Int.toNat 1=1:=rfl
 unfold F65
 rw [hz,ho,allB (fun k=>!(F12 (w.Radio.getD k default))) w.Radio.length _ (fun k hk=>by simp only [F65_s0,ltD hk,Qd,nn]) (by simp [F65_s0])]
 simp only [Rr,Bool.cond_false_left,Q9,Qh,Sk,Sa,Bool.not_eq_false',sideOk_iff,bne_eq_false_iff_eq,T4,allB_iff,and_true]
 have hw:(∀ k,k<w.Radio.length->F12 (w.Radio.getD k default)=true)↔∀ x,x∈w.Radio->WdOk x:=by
  constructor
  ·intro h x hx
   obtain ⟨k,hk,rfl⟩:=List.getElem_of_mem hx
   have:=h k hk
   rw [getD_lt _ hk,wordOk_iff] at this; exact this
  ·intro h k hk
   rw [wordOk_iff,getD_lt _ hk]; exact h _ (Sg hk)
 simp only [hw]
 constructor
 ·rintro ⟨⟨⟨⟨⟨⟨a,b⟩,c⟩,d⟩,e⟩,f⟩,g⟩
  exact ⟨by omega,b,c,d,e,by omega,g⟩
 ·rintro ⟨a,b,c,d,e,f,g⟩
  exact ⟨⟨⟨⟨⟨⟨by omega,b⟩,c⟩,d⟩,e⟩,by omega⟩,g⟩
theorem worldS_radio (w:Ub) (h:F65 w=true):w.Radio.length<=12:=((worldOk_iff w).1 h).rad
theorem wA {a:List Uc} {b:List HelloWord} (h:F65 ⟨a,b⟩=true):a.length=2:=worldS_two ⟨a,b⟩ h
theorem wB {a:List Uc} {b:List HelloWord} (h:F65 ⟨a,b⟩=true):∀ k:Nat,EndFit (a.getD k default).End:=worldS_fit ⟨a,b⟩ h
theorem wC {a:List Uc} {b:List HelloWord} (h:F65 ⟨a,b⟩=true):b.length<=12:=worldS_radio ⟨a,b⟩ h
theorem getD_set {α:Type} [Inhabited α] {l:List α} {k:Nat} (hk:k<l.length) (x:α) (j:Nat):(l.set k x).getD j default=if k=j then x else l.getD j default:=by
 rw [Qt,Qt,List.getElem?_set]
 by_cases h:k=j
 ·subst h; simp [hk]
 ·simp [h]
theorem wld_set {w:Ub} (h:WldOk w) {k:Nat} (hk:k<2) {s:Uc} (hs:SdOk s) (h1:s.End.Name=(w.Sides.getD k default).End.Name) (h2:s.End.Peer=(w.Sides.getD k default).End.Peer) {r:List HelloWord} (h3:r.length<=12) (h4:∀ x,x∈r->WdOk x):WldOk ⟨w.Sides.set k s,r⟩:=by
 have hl:k<w.Sides.length:=by rw [h.two]; exact hk
 have g0:=getD_set hl s 0
 have g1:=getD_set hl s 1
 rcases (uu0:k=0\/k=1) with rfl | rfl
 ·rw [if_pos rfl] at g0; rw [if_neg uu6] at g1
  refine ⟨by show (w.Sides.set 0 s).length=2; rw [List.length_set]; exact h.two,?_,?_,?_,?_,h3,h4⟩
  ·show SdOk ((w.Sides.set 0 s).getD 0 default); rw [g0]; exact hs
  ·show SdOk ((w.Sides.set 0 s).getD 1 default); rw [g1]; exact h.s1
  ·show ((w.Sides.set 0 s).getD 0 default).End.Name=((w.Sides.set 0 s).getD 1 default).End.Peer; rw [g0,g1,h1]; exact h.n0
  ·show ((w.Sides.set 0 s).getD 1 default).End.Name=((w.Sides.set 0 s).getD 0 default).End.Peer; rw [g0,g1,h2]; exact h.n1
 ·rw [if_neg uu6] at g0; rw [if_pos rfl] at g1
  refine ⟨by show (w.Sides.set 1 s).length=2; rw [List.length_set]; exact h.two,?_,?_,?_,?_,h3,h4⟩
  ·show SdOk ((w.Sides.set 1 s).getD 0 default); rw [g0]; exact h.s0
  ·show SdOk ((w.Sides.set 1 s).getD 1 default); rw [g1]; exact hs
  ·show ((w.Sides.set 1 s).getD 0 default).End.Name=((w.Sides.set 1 s).getD 1 default).End.Peer; rw [g0,g1,h2]; exact h.n0
  ·show ((w.Sides.set 1 s).getD 1 default).End.Name=((w.Sides.set 1 s).getD 0 default).End.Peer; rw [g0,g1,h1]; exact h.n1
theorem wld_radio {w:Ub} (h:WldOk w) {r:List HelloWord} (h3:r.length<=12) (h4:∀ x,x∈r->WdOk x):WldOk ⟨w.Sides,r⟩:=⟨h.two,h.s0,h.s1,h.n0,h.n1,h3,h4⟩
theorem wput_ok {w:Ub} {x:HelloWord} (h:WldOk w) (hx:WdOk x):WldOk (F79 w x):=by
 unfold F79
 by_cases hl:(w.Radio.length:Int)<12
 ·rw [Qv hl,Qd]
  refine wld_radio h (by rw [Rd,List.length_singleton]; omega) fun y hy=>?_
  rcases Qu.1 hy with hy | hy
  ·exact h.wd y hy
  ·rw [Q7.1 hy]; exact hx
 ·rw [Qw hl,Qj]; exact h
theorem kept_nm (e:Ud):(F93 e).Name=e.Name/\(F93 e).Peer=e.Peer:=by rw [kept_N]; exact ⟨rfl,rfl⟩
theorem lis3_nm (e:Ud) (w:HelloWord):(lis3 e w).Name=e.Name/\(lis3 e w).Peer=e.Peer:=by
 unfold lis3
 cases (bif decide (e.Under.Kind>0) then (w.Heard==e.Num) else false)
 ·exact ⟨rfl,rfl⟩
 ·rw [Qd,ann_N]; exact ⟨rfl,rfl⟩
theorem lis4_nm (x:Ud) (w:HelloWord):(lis4 x w).Name=x.Name/\(lis4 x w).Peer=x.Peer:=by
 unfold lis4
 cases (bif decide (w.Change.Kind>0) then (w.Num==(IntKind.i64.wrap (x.Got+1))) else false)
 ·exact ⟨rfl,rfl⟩
 ·rw [Qd]; cases (toldP x.Heard w.Change).2 <;> exact ⟨rfl,rfl⟩
theorem lis1_nm (e:Ud) (w:HelloWord):(lis1 e w).Name=e.Name/\(lis1 e w).Peer=e.Peer:=by
 unfold lis1; cases decide (w.Boot>e.PeerBoot) <;> exact ⟨rfl,rfl⟩
theorem listen_nm (e:Ud) (w:HelloWord):(F86 e w).Name=e.Name/\(F86 e w).Peer=e.Peer:=by
 rw [listen_N]
 have h1:=lis1_nm e w
 cases (w.Yours==(lis1 e w).Boot)
 ·exact h1
 ·rw [Rw,Qj]
  have h2:=kept_nm (lis4 (lis3 (lis2 (lis1 e w) w) w) w)
  have h3:=lis4_nm (lis3 (lis2 (lis1 e w) w) w) w
  have h4:=lis3_nm (lis2 (lis1 e w) w) w
  exact ⟨h2.1.trans (h3.1.trans (h4.1.trans h1.1)),h2.2.trans (h3.2.trans (h4.2.trans h1.2))⟩
theorem hear_ok {e:Ud} (w:HelloWord) (h:EOk e):EOk (F77 e w)/\(F77 e w).Name=e.Name/\(F77 e w).Peer=e.Peer:=by
 unfold F77
 rw [(endOk_iff e).2 h,Rw,Qj]
 cases h1:(bif (bif (bif (e.Boot==1000) then true else (!(F15 e.Keys w))) then true else (w.From != e.Peer)) then true else (w.To != e.Name)) with
 | true=>exact ⟨h,rfl,rfl⟩
 | false =>
  rw [Qj]
  simp only [Rr,Sa,Bool.not_eq_false'] at h1
  have hw:=(right_word h1.1.1.2).fit
  generalize (bif decide (w.Boot<e.PeerBoot) then true else (bif (w.Boot==e.PeerBoot) then decide (w.Turn<=e.PeerTurn) else false))=c
  cases c with
  | true=>exact ⟨h,rfl,rfl⟩
  | false=>exact ⟨eok_listen h hw,listen_nm e w⟩
theorem tick_nm {e:Ud} (h:EOk e):(F80 e).Name=e.Name/\(F80 e).Peer=e.Peer:=by
 rw [tick_N ((endOk_iff e).2 h)]
 cases decide (e.Left>0) with
 | false=>exact ⟨rfl,rfl⟩
 | true =>
  rw [Qd]
  cases (e.Left-1==0) with
  | false=>exact ⟨rfl,rfl⟩
  | true=>rw [Qd,life_N (tickX e (e.Left-1)) h.boot]; exact ⟨rfl,rfl⟩
theorem down_ok {e:Ud} (h:EOk e):EOk (F81 e)/\Rst (F81 e):=by
 have z:(0:Int)<=0/\(0:Int)<=1000000:=by decide
 refine ⟨⟨h.nm,h.pr,h.ne,h.keys,h.boot,h.want,z,⟨Int.le_refl 0,by show (0:Int)<=999; decide⟩,z,Iff.rfl,⟨Int.le_refl 0,by show (0:Int)<=4; decide⟩,fun hx=>?_,fun hx=>?_,⟨Int.le_refl 0,Int.le_refl 0⟩,z,change0,fun hx=>?_,table_nil,by show F8 (F84 [] ⟨0,⟨0,0,0,0⟩⟩)=true; rw [apply_zero]; exact table_nil,(heard_iff _).2 ⟨Rk _,⟨Int.le_refl 0,by show (0:Int)<=6; decide⟩,ord_nil,fun _ r hr=>?_,rfl⟩⟩,rfl,rfl,rfl,rfl,rfl,rfl,rfl,rfl,rfl,rfl⟩
 ·have:(0:Int)>0:=hx
  omega
 ·cases hx
 ·have:(0:Int)>0:=hx
  omega
 ·cases hr
theorem eok_want {e:Ud} (h:EOk e) {t:List Ue} (ht:F8 t=true):EOk ⟨e.Name,e.Peer,e.Keys,e.Boot,t,e.Turn,e.PeerBoot,e.PeerTurn,e.Up,e.Left,e.Num,e.Under,e.Told,e.All,e.Got,e.Full,e.Heard,e.Keep⟩ :=
 ⟨h.nm,h.pr,h.ne,h.keys,h.boot,ht,h.turn,h.pb,h.pt,h.pp,h.left,h.lp,h.up,h.num,h.got,h.und,h.un,h.told,h.app,h.hd⟩
theorem eok_keys {e:Ud} (h:EOk e) {t:List HelloKey} (ht:F10 t=true):EOk ⟨e.Name,e.Peer,t,e.Boot,e.Want,e.Turn,e.PeerBoot,e.PeerTurn,e.Up,e.Left,e.Num,e.Under,e.Told,e.All,e.Got,e.Full,e.Heard,e.Keep⟩ :=
 ⟨h.nm,h.pr,h.ne,ht,h.boot,h.want,h.turn,h.pb,h.pt,h.pp,h.left,h.lp,h.up,h.num,h.got,h.und,h.un,h.told,h.app,h.hd⟩
theorem read_sub (w:Ub):(F83 w).Sublist w.Radio:=by
 have h:F83 w=w.Radio.filter (fun x=>bif (F15 ((w.Sides.getD (Int.toNat 0) default).End).Keys x) then true else (F15 ((w.Sides.getD (Int.toNat 1) default).End).Keys x)):=by
  unfold F83
  have h:=runL_rule (step:=F83_s0 w) (fun (k:Nat) (s:List HelloWord)=>(s,(k:Int))) w.Radio.length (fun k s=>s=(w.Radio.take k).filter (fun x=>bif (F15 ((w.Sides.getD (Int.toNat 0) default).End).Keys x) then true else (F15 ((w.Sides.getD (Int.toNat 1) default).End).Keys x))) (fun _=>False)
   (fun k s hk hI=>.inl ⟨bif (bif (F15 ((w.Sides.getD (Int.toNat 0) default).End).Keys (w.Radio.getD k default)) then true else (F15 ((w.Sides.getD (Int.toNat 1) default).End).Keys (w.Radio.getD k default))) then s++[w.Radio.getD k default] else s,by
    simp only [F83_s0,ltD hk,Qd,nn]
    cases (bif (F15 ((w.Sides.getD (Int.toNat 0) default).End).Keys (w.Radio.getD k default)) then true else (F15 ((w.Sides.getD (Int.toNat 1) default).End).Keys (w.Radio.getD k default))) <;> rfl,by
    rw [hI,filter_take_next _ w.Radio hk]
    cases (bif (F15 ((w.Sides.getD (Int.toNat 0) default).End).Keys (w.Radio.getD k default)) then true else (F15 ((w.Sides.getD (Int.toNat 1) default).End).Keys (w.Radio.getD k default))) <;> simp⟩)
   (fun s _=>by simp [F83_s0]) w.Radio.length 0 [] uu0 rfl (Int.toNat ((w.Radio.length:Int)-0)+1) uu0
  rcases h with ⟨s,h,hI⟩ | ⟨_,_,h⟩
  ·have h':runL (F83_s0 w) (Int.toNat ((w.Radio.length:Int)-0)+1) ([],0)=_:=h
   rw [h',hI,List.take_length]; rfl
  ·exact h.elim
 rw [h]; exact List.filter_sublist
theorem side_ok {w:Ub} (e:HelloEvent) (h:WldOk w):WldOk (F73 w e):=by
 unfold F73
 by_cases ha:0<=e.At/\e.At<=1
 ·rw [Qv ha,Rw,Qj]
  have hk:Int.toNat e.At<2:=by omega
  have hs:=h.side hk
  generalize Int.toNat e.At=k at hk hs ⊢
  cases (e.Kind==1) with
  | true =>
   rw [Qd]
   cases hu:(w.Sides.getD k default).Up with
   | false=>exact h
   | true =>
    obtain ⟨s1,s2,s3,s4⟩:=say_ok hs.en
    have hw:WldOk ⟨w.Sides.set k ⟨true,(F78 (w.Sides.getD k default).End).1⟩,w.Radio⟩:=wld_set h hk ⟨s1,.inl rfl⟩ s2 s3 h.rad h.wd
    rw [Qd]
    cases ho:(F78 (w.Sides.getD k default).End).2.2 with
    | false=>exact hw
    | true=>exact wput_ok hw (s4 ho)
  | false =>
  rw [Qj]
  cases (e.Kind==5) with
  | true =>
   rw [Qd]
   cases hu:(w.Sides.getD k default).Up with
   | false=>exact h
   | true=>exact wld_set (s:=⟨true,F80 (w.Sides.getD k default).End⟩) h hk ⟨eok_tick hs.en,.inl rfl⟩ (tick_nm hs.en).1 (tick_nm hs.en).2 h.rad h.wd
  | false =>
  rw [Qj]
  cases (e.Kind==6) with
  | true=>exact wld_set (s:=⟨false,F81 (w.Sides.getD k default).End⟩) h hk ⟨(down_ok hs.en).1,.inr (down_ok hs.en).2⟩ rfl rfl h.rad h.wd
  | false =>
  rw [Qj]
  cases (e.Kind==7) with
  | true =>
   rw [Qd]
   cases hu:(w.Sides.getD k default).Up with
   | true=>exact h
   | false =>
    have hl:=life_N (w.Sides.getD k default).End hs.en.boot
    exact wld_set (s:=⟨true,F82 (w.Sides.getD k default).End⟩) h hk ⟨eok_life hs.en.eb,.inl rfl⟩ (by show (F82 _).Name=_; rw [hl]; rfl) (by show (F82 _).Peer=_; rw [hl]; rfl) h.rad h.wd
  | false =>
  rw [Qj]
  cases (e.Kind==8) with
  | true =>
   rw [Qd]
   cases ht:F8 e.Want with
   | false=>exact h
   | true=>exact wld_set (s:=⟨(w.Sides.getD k default).Up,⟨(w.Sides.getD k default).End.Name,(w.Sides.getD k default).End.Peer,(w.Sides.getD k default).End.Keys,(w.Sides.getD k default).End.Boot,e.Want,(w.Sides.getD k default).End.Turn,(w.Sides.getD k default).End.PeerBoot,(w.Sides.getD k default).End.PeerTurn,(w.Sides.getD k default).End.Up,(w.Sides.getD k default).End.Left,(w.Sides.getD k default).End.Num,(w.Sides.getD k default).End.Under,(w.Sides.getD k default).End.Told,(w.Sides.getD k default).End.All,(w.Sides.getD k default).End.Got,(w.Sides.getD k default).End.Full,(w.Sides.getD k default).End.Heard,(w.Sides.getD k default).End.Keep⟩⟩) h hk ⟨eok_want hs.en ht,hs.rs.imp id fun r=>⟨r.turn,r.pb,r.up,r.num,r.un,r.told,r.all,r.got,r.full,r.heard⟩⟩ rfl rfl h.rad h.wd
  | false =>
  rw [Qj]
  cases (e.Kind==9) with
  | true =>
   rw [Qd]
   cases ht:F10 e.Keys with
   | false=>exact h
   | true=>exact wld_set (s:=⟨(w.Sides.getD k default).Up,⟨(w.Sides.getD k default).End.Name,(w.Sides.getD k default).End.Peer,e.Keys,(w.Sides.getD k default).End.Boot,(w.Sides.getD k default).End.Want,(w.Sides.getD k default).End.Turn,(w.Sides.getD k default).End.PeerBoot,(w.Sides.getD k default).End.PeerTurn,(w.Sides.getD k default).End.Up,(w.Sides.getD k default).End.Left,(w.Sides.getD k default).End.Num,(w.Sides.getD k default).End.Under,(w.Sides.getD k default).End.Told,(w.Sides.getD k default).End.All,(w.Sides.getD k default).End.Got,(w.Sides.getD k default).End.Full,(w.Sides.getD k default).End.Heard,(w.Sides.getD k default).End.Keep⟩⟩) h hk ⟨eok_keys hs.en ht,hs.rs.imp id fun r=>⟨r.turn,r.pb,r.up,r.num,r.un,r.told,r.all,r.got,r.full,r.heard⟩⟩ rfl rfl (Qs (read_sub w).length_le h.rad) fun x hx=>h.wd x ((read_sub w).subset hx)
  | false=>exact h
 ·rw [Qw ha]; exact h
def bringU (x:HelloWord) (k:Nat) (xs:List Uc):List Uc :=
 bif (bif (xs.getD k default).Up then ((xs.getD k default).End.Name==x.To) else false) then xs.set k ⟨(xs.getD k default).Up,F77 (xs.getD k default).End x⟩ else xs
theorem bring_N (w:Ub) (a:Int):F72 w a=⟨bringU (w.Radio.getD a.toNat default) 1 (bringU (w.Radio.getD a.toNat default) 0 w.Sides),w.Radio.take a.toNat++w.Radio.drop (a+1).toNat⟩:=by
 unfold F72
 have st:∀ (k:Nat) (xs:List Uc),k<2->F72_s0 w a ((k:Int),xs)=.next ((k:Int)+1,bringU (w.Radio.getD a.toNat default) k xs):=fun k xs hk=>by
  have hd:decide ((k:Int)<2)=true:=Qv uu0
  simp only [F72_s0,hd,Qd,nn]
  unfold bringU
  cases (bif (xs.getD k default).Up then ((xs.getD k default).End.Name==(w.Radio.getD a.toNat default).To) else false) <;> rfl
 have e0:F72_s0 w a (0,w.Sides)=.next (1,bringU (w.Radio.getD a.toNat default) 0 w.Sides):=st 0 _ uu6
 have e1:∀ xs,F72_s0 w a (1,xs)=.next (2,bringU (w.Radio.getD a.toNat default) 1 xs):=fun xs=>st 1 xs uu6
 have e2:∀ xs,F72_s0 w a (2,xs)=.done (2,xs):=fun xs=>rfl
 have hn:Int.toNat (2-0)+1=3:=rfl
 rw [hn]
 simp only [runL,e0,e1,e2,Lp.fin,T1]
theorem bringU_ok {w:Ub} (x:HelloWord) {k:Nat} (hk:k<2) (h:WldOk w):WldOk ⟨bringU x k w.Sides,w.Radio⟩:=by
 unfold bringU
 have hs:=h.side hk
 cases hc:(bif (w.Sides.getD k default).Up then ((w.Sides.getD k default).End.Name==x.To) else false) with
 | false=>exact wld_radio h h.rad h.wd
 | true =>
  have hu:(w.Sides.getD k default).Up=true:=by
   cases hu:(w.Sides.getD k default).Up with
   | true=>rfl
   | false=>rw [hu] at hc; cases hc
  obtain ⟨h1,h2,h3⟩:=hear_ok x hs.en
  exact wld_set (s:=⟨(w.Sides.getD k default).Up,F77 (w.Sides.getD k default).End x⟩) h hk ⟨h1,.inl hu⟩ h2 h3 h.rad h.wd
theorem bring_ok' {w:Ub} {a:Int} (h:WldOk w) (h0:0<=a):WldOk (F72 w a):=by
 rw [bring_N]
 have h1:=bringU_ok (w.Radio.getD a.toNat default) (uu6:1<2) (bringU_ok (w.Radio.getD a.toNat default) (uu6:0<2) h)
 have hs:(w.Radio.take a.toNat++w.Radio.drop (a+1).toNat).Sublist w.Radio:=by
  rw [show Int.toNat (a+1)=Int.toNat a+1 by omega]; exact without_sub _ _
 exact wld_radio h1 (Qs hs.length_le h.rad) fun x hx=>h.wd x (hs.subset hx)
theorem bring_ok (w:Ub) (a:Int) (h:F65 w=true) (h0:0<=a):F65 (F72 w a)=true:=(worldOk_iff _).2 (bring_ok' ((worldOk_iff _).1 h) h0)
theorem bring_len (w:Ub) (a:Int) (h0:0<=a) (h1:a<(w.Radio.length:Int)):(F72 w a).Radio.length+1=w.Radio.length:=by
 rw [bring_N]
 simp only [Rd,Ri,Se]
 omega
theorem sideB_ok (w:Ub) (e:HelloEvent) (h:F65 w=true):F65 (F73 w e)=true:=(worldOk_iff _).2 (side_ok e ((worldOk_iff _).1 h))
theorem two_list {α:Type} [Inhabited α]:∀ (l:List α),l.length=2->[l.getD 0 default,l.getD 1 default]=l
 | [_,_],_=>rfl
theorem copy_N (w:Ub) (h:w.Sides.length=2):F66 w=w:=by
 unfold F66
 have st:∀ (k:Nat) xs,k<2->F66_s0 w ((k:Int),xs)=.next ((k:Int)+1,xs++[w.Sides.getD k default]):=fun k xs hk=>by
  simp only [F66_s0,ltD (uu0:k<w.Sides.length),Qd,nn]
 have e0:∀ xs,F66_s0 w (0,xs)=.next (1,xs++[w.Sides.getD 0 default]):=fun xs=>st 0 xs uu6
 have e1:∀ xs,F66_s0 w (1,xs)=.next (2,xs++[w.Sides.getD 1 default]):=fun xs=>st 1 xs uu6
 have e2:∀ xs,F66_s0 w (2,xs)=.done (2,xs):=fun xs=>by
  have hd:decide ((2:Int)<(w.Sides.length:Int))=false:=Qw uu0
  simp only [F66_s0,hd,Qj]
 have hn:Int.toNat ((w.Sides.length:Int)-0)+1=3:=by omega
 rw [hn]
 simp only [runL,e0,e1,e2,Lp.fin,T1]
 have hs:[w.Sides.getD 0 default,w.Sides.getD 1 default]=w.Sides:=two_list _ h
 have hs':([]:List Uc)++[w.Sides.getD 0 default]++[w.Sides.getD 1 default]=w.Sides:=hs
 obtain ⟨s,r⟩:=w
 exact Qa (fun s=>Ub.mk s r) hs'
theorem copy_ok (w:Ub) (h:F65 w=true):F65 (F66 w)=true:=by rw [copy_N w (worldS_two w h)]; exact h
theorem forge_ok' {w:Ub} (x:HelloWord) (h:WldOk w):WldOk (F75 w x):=by
 unfold F75
 cases hc:(bif (bif (!(F12 x)) then true else (F15 (((w.Sides.getD (Int.toNat 0) default).End).Keys) x)) then true else (F15 (((w.Sides.getD (Int.toNat 1) default).End).Keys) x)) with
 | true=>exact h
 | false =>
  simp only [Rr,Sa,Bool.not_eq_false'] at hc
  exact wput_ok h ((wordOk_iff x).1 hc.1.1)
theorem kc72l (w1:Ub) (at':Int) {K_:Prop} (p0_:F65 w1=true) (p1_:w1.Sides.length=2) (p2_:∀ k:Nat,EndFit (w1.Sides.getD k default).End) (p3_:w1.Radio.length<=12) (p4_:0<=at') (p5_:at'<(w1.Radio.length:Int)) (q0_:F65 w1=true) (q1_:0<=at') (q2_:0<=at') (q3_:at'<(w1.Radio.length:Int)) (k_:(F65 (F72 w1 at')=true)->((F72 w1 at').Radio.length+1=w1.Radio.length)->K_):(F65 w1=true/\w1.Sides.length=2/\(∀ k:Nat,EndFit (w1.Sides.getD k default).End)/\w1.Radio.length<=12/\0<=at'/\at'<(w1.Radio.length:Int))/\(Imps (eHelloWorld w1) (eHelloWorld w1))/\(Imp (.v (vI at')) (.v (vI at')))/\K_:=⟨⟨p0_,p1_,p2_,p3_,p4_,p5_⟩,Imps.refl _,Imp.refl _,k_ (bring_ok w1 at' q0_ q1_) (bring_len w1 at' q2_ q3_)⟩
abbrev kh72l (w1:Ub) (at':Int):Hint true Try.prog:=.call 72 (S72 w1 at') (ok72 w1 at') none
def F74 (w1:Ub) (e1:HelloEvent):Ub :=
 bif (!(decide (0<=e1.At/\e1.At<=((w1.Radio.length:Int)-1)))) then w1 else (bif (e1.Kind==2) then (F72 w1 e1.At) else (bif (e1.Kind==3) then (F79 w1 (w1.Radio.getD (Int.toNat e1.At) default)) else (⟨w1.Sides,((([]:List HelloWord)++(w1.Radio.take (Int.toNat e1.At)))++(w1.Radio.drop (e1.At+1).toNat))⟩:Ub)))
theorem fi74 (w1:Ub) (e1:HelloEvent) (r:Ub) (hF:r=(F74 w1 e1)):(Imp (.l 23 eHelloSide r.Sides) (.l 23 eHelloSide (F74 w1 e1).Sides))/\(Imp (.l 14 eHelloWord r.Radio) (.l 14 eHelloWord (F74 w1 e1).Radio))/\True:=by cases hF; exact ⟨Imp.refl _,Imp.refl _,trivial⟩
def S74 (w1:Ub) (e1:HelloEvent):Spec:=⟨[.ot (eHelloWorld w1),.r (.g (eHelloEvent e1))],.ag [.ow (.l 23 eHelloSide (F74 w1 e1).Sides),.ow (.l 14 eHelloWord (F74 w1 e1).Radio)],F65 w1=true/\w1.Sides.length=2/\(∀ k:Nat,EndFit (w1.Sides.getD k default).End)/\w1.Radio.length<=12⟩
abbrev q74_1 (w1:Ub) (e1:HelloEvent):=(([]:List HelloWord)++(w1.Radio.take (Int.toNat e1.At)))
theorem ok74 (w1:Ub) (e1:HelloEvent):(S74 w1 e1).ok Try.prog 74 :=
 fnG_ok mixed (fn:=Try.f74) (ct:=.seq .no (.seq (.seq (.reg [(5,.bnd),(6,kh32a e1.At 0 ((w1.Radio.length:Int)-1))]) (.cond (.seq .no .no) .no)) (.seq (.seq .no (.blk (.seq .no (.cond (.seq (.reg [(3,kh72l w1 e1.At)]) .no) (.seq .no (.cond (.seq (.reg [(7,kh79 w1 (w1.Radio.getD (Int.toNat e1.At) default))]) .no) .no)))))) (.seq (.reg [(0,.dat (.l 14 eHelloWord ([]:List HelloWord))),(6,.dat (.l 14 eHelloWord (q74_1 w1 e1))),(11,.bnd),(13,.dat (.l 14 eHelloWord ((q74_1 w1 e1)++(w1.Radio.drop (e1.At+1).toNat))))]) (.seq .no .no))))) Try.func74 (fun (hp:F65 w1=true/\w1.Sides.length=2/\(∀ k:Nat,EndFit (w1.Sides.getD k default).End)/\w1.Radio.length<=12)=>have hpre0:=hp.1; have hpre1:=hp.2.1; have hpre2:=hp.2.2.1; have hpre3:=hp.2.2.2; ai (iok ((w1.Radio.length:Int)-1) uu1) (kc32a e1.At 0 ((w1.Radio.length:Int)-1) (ifb (!(decide (0<=e1.At/\e1.At<=((w1.Radio.length:Int)-1)))) (fun h1=>have _:=Re (notET h1); fi74 w1 e1 w1 (condT h1 rfl)) (fun h1=>have _:=Qc (notEF h1); ife e1.Kind 2 (fun h2 _=>kc72l w1 e1.At uu11 uu13 uu22 uu12 uu1 uu1 uu11 uu1 uu1 uu1 (fun gv3 gv4=>fi74 w1 e1 (F72 w1 e1.At) (condF h1 (condT h2 rfl)))) (fun h2 _=>ife e1.Kind 3 (fun h5 _=>ai (uu1:ib e1.At w1.Radio) (kc79 w1 (w1.Radio.getD (Int.toNat e1.At) default) uu12 (fi74 w1 e1 (F79 w1 (w1.Radio.getD (Int.toNat e1.At) default)) (condF h1 (condF h2 (condT h5 rfl)))))) (fun h5 _=>ai (bokr 14 eHelloWord ([]:List HelloWord) fun _=>rfl) (ai (uu1:0<=(0:Int)/\(0:Int)<=e1.At/\e1.At<=(w1.Radio.length:Int)) (ai (AppL.mk eHelloWord ([]:List HelloWord) (w1.Radio.take (Int.toNat e1.At)) (Imp.refl (.l 14 eHelloWord ([]:List HelloWord))) ir (fun y=>⟨rfl,fun e he=>by simp only [eHelloWord,Qo,Rj,Sz] at he; rcases he with rfl | rfl | rfl | rfl | rfl | rfl | rfl | rfl | rfl | rfl | rfl | rfl | rfl | rfl <;> exact ⟨_,rfl⟩⟩):AppL (.l 14 eHelloWord ([]:List HelloWord)) (.l 14 eHelloWord (w1.Radio.take (Int.toNat e1.At))) 14 (.l 14 eHelloWord (q74_1 w1 e1))) (ai (uu8:(q74_1 w1 e1).length*112<=140737488355328) (ai (iok (e1.At+1) uu1) (ai (uu1:0<=(e1.At+1)/\(e1.At+1)<=(w1.Radio.length:Int)/\(w1.Radio.length:Int)<=(w1.Radio.length:Int)) (ai (AppL.mk eHelloWord (q74_1 w1 e1) (w1.Radio.drop (e1.At+1).toNat) (Imp.refl (.l 14 eHelloWord (q74_1 w1 e1))) ir (fun y=>⟨rfl,fun e he=>by simp only [eHelloWord,Qo,Rj,Sz] at he; rcases he with rfl | rfl | rfl | rfl | rfl | rfl | rfl | rfl | rfl | rfl | rfl | rfl | rfl | rfl <;> exact ⟨_,rfl⟩⟩):AppL (.l 14 eHelloWord (q74_1 w1 e1)) (.l 14 eHelloWord (w1.Radio.drop (e1.At+1).toNat)) 14 (.l 14 eHelloWord ((q74_1 w1 e1)++(w1.Radio.drop (e1.At+1).toNat)))) (ai (uu8:((q74_1 w1 e1)++(w1.Radio.drop (e1.At+1).toNat)).length*112<=140737488355328) (fi74 w1 e1 (⟨w1.Sides,((q74_1 w1 e1)++(w1.Radio.drop (e1.At+1).toNat))⟩:Ub) (condF h1 (condF h2 (condF h5 rfl))))))))))))))))) uu3
theorem kc74 (w1:Ub) (e1:HelloEvent) {K_:Prop} (p0_:F65 w1=true) (p1_:w1.Sides.length=2) (p2_:∀ k:Nat,EndFit (w1.Sides.getD k default).End) (p3_:w1.Radio.length<=12) (k_:K_):(F65 w1=true/\w1.Sides.length=2/\(∀ k:Nat,EndFit (w1.Sides.getD k default).End)/\w1.Radio.length<=12)/\(Imps (eHelloWorld w1) (eHelloWorld w1))/\(Imps (eHelloEvent e1) (eHelloEvent e1))/\K_:=⟨⟨p0_,p1_,p2_,p3_⟩,Imps.refl _,Imps.refl _,k_⟩
abbrev kh74 (w1:Ub) (e1:HelloEvent):Hint true Try.prog:=.call 74 (S74 w1 e1) (ok74 w1 e1) none
theorem kc75 (w1:Ub) (x9:HelloWord) {K_:Prop} (p0_:w1.Sides.length=2) (p1_:w1.Radio.length<=12) (k_:K_):(w1.Sides.length=2/\w1.Radio.length<=12)/\(Imps (eHelloWorld w1) (eHelloWorld w1))/\(Imps (eHelloWord x9) (eHelloWord x9))/\K_:=⟨⟨p0_,p1_⟩,Imps.refl _,Imps.refl _,k_⟩
abbrev kh75 (w1:Ub) (x9:HelloWord):Hint true Try.prog:=.call 75 (S75 w1 x9) (ok75 w1 x9) none
theorem kc73l (w1:Ub) (e1:HelloEvent) {K_:Prop} (p0_:F65 w1=true) (p1_:w1.Sides.length=2) (p2_:∀ k:Nat,EndFit (w1.Sides.getD k default).End) (p3_:w1.Radio.length<=12) (q0_:F65 w1=true) (k_:(F65 (F73 w1 e1)=true)->K_):(F65 w1=true/\w1.Sides.length=2/\(∀ k:Nat,EndFit (w1.Sides.getD k default).End)/\w1.Radio.length<=12)/\(Imps (eHelloWorld w1) (eHelloWorld w1))/\(Imps (eHelloEvent e1) (eHelloEvent e1))/\K_:=⟨⟨p0_,p1_,p2_,p3_⟩,Imps.refl _,Imps.refl _,k_ (sideB_ok w1 e1 q0_)⟩
abbrev kh73l (w1:Ub) (e1:HelloEvent):Hint true Try.prog:=.call 73 (S73 w1 e1) (ok73 w1 e1) none
def F68 (w1:Ub) (e1:HelloEvent):Ub :=
 bif (e1.Kind==2) then (bif (e1.Kind==2) then (F74 w1 e1) else (bif (e1.Kind==10) then (F75 w1 e1.Word) else (F73 w1 e1))) else (bif (e1.Kind==3) then (bif (e1.Kind==3) then (F74 w1 e1) else (bif (e1.Kind==10) then (F75 w1 e1.Word) else (F73 w1 e1))) else (bif (e1.Kind==4) then (F74 w1 e1) else (bif (e1.Kind==10) then (F75 w1 e1.Word) else (F73 w1 e1))))
theorem fi68 (w1:Ub) (e1:HelloEvent) (r:Ub) (hF:r=(F68 w1 e1)):(Imp (.l 23 eHelloSide r.Sides) (.l 23 eHelloSide (F68 w1 e1).Sides))/\(Imp (.l 14 eHelloWord r.Radio) (.l 14 eHelloWord (F68 w1 e1).Radio))/\True:=by cases hF; exact ⟨Imp.refl _,Imp.refl _,trivial⟩
def S68 (w1:Ub) (e1:HelloEvent):Spec:=⟨[.ot (eHelloWorld w1),.r (.g (eHelloEvent e1))],.ag [.ow (.l 23 eHelloSide (F68 w1 e1).Sides),.ow (.l 14 eHelloWord (F68 w1 e1).Radio)],F65 w1=true/\w1.Sides.length=2/\(∀ k:Nat,EndFit (w1.Sides.getD k default).End)/\w1.Radio.length<=12⟩
theorem ok68 (w1:Ub) (e1:HelloEvent):(S68 w1 e1).ok Try.prog 68 :=
 fnG_ok mixed (fn:=Try.f68) (ct:=.seq .no (.seq (.seq .no (.blk (.seq (.seq .no (.cond .no (.seq .no (.cond .no .no)))) (.cond (.seq (.reg [(2,kh74 w1 e1)]) .no) (.seq .no (.cond (.seq (.reg [(3,kh75 w1 e1.Word)]) .no) .no)))))) (.seq (.reg [(2,kh73l w1 e1)]) .no))) Try.func68 (fun (hp:F65 w1=true/\w1.Sides.length=2/\(∀ k:Nat,EndFit (w1.Sides.getD k default).End)/\w1.Radio.length<=12)=>have hpre0:=hp.1; have hpre1:=hp.2.1; have hpre2:=hp.2.2.1; have hpre3:=hp.2.2.2; ife e1.Kind 2 (fun h1 _=>ife e1.Kind 2 (fun h2 _=>kc74 w1 e1 uu11 uu13 uu22 uu12 (fi68 w1 e1 (F74 w1 e1) (condT h1 (condT h2 rfl)))) (fun h2 _=>ife e1.Kind 10 (fun h3 _=>kc75 w1 e1.Word uu13 uu12 (fi68 w1 e1 (F75 w1 e1.Word) (condT h1 (condF h2 (condT h3 rfl))))) (fun h3 _=>kc73l w1 e1 uu11 uu13 uu22 uu12 uu11 (fun gv4=>fi68 w1 e1 (F73 w1 e1) (condT h1 (condF h2 (condF h3 rfl))))))) (fun h1 _=>ife e1.Kind 3 (fun h5 _=>ife e1.Kind 3 (fun h6 _=>kc74 w1 e1 uu11 uu13 uu22 uu12 (fi68 w1 e1 (F74 w1 e1) (condF h1 (condT h5 (condT h6 rfl))))) (fun h6 _=>ife e1.Kind 10 (fun h7 _=>kc75 w1 e1.Word uu13 uu12 (fi68 w1 e1 (F75 w1 e1.Word) (condF h1 (condT h5 (condF h6 (condT h7 rfl)))))) (fun h7 _=>kc73l w1 e1 uu11 uu13 uu22 uu12 uu11 (fun gv8=>fi68 w1 e1 (F73 w1 e1) (condF h1 (condT h5 (condF h6 (condF h7 rfl)))))))) (fun h5 _=>ife e1.Kind 4 (fun h9 _=>kc74 w1 e1 uu11 uu13 uu22 uu12 (fi68 w1 e1 (F74 w1 e1) (condF h1 (condF h5 (condT h9 rfl))))) (fun h9 _=>ife e1.Kind 10 (fun h10 _=>kc75 w1 e1.Word uu13 uu12 (fi68 w1 e1 (F75 w1 e1.Word) (condF h1 (condF h5 (condF h9 (condT h10 rfl)))))) (fun h10 _=>kc73l w1 e1 uu11 uu13 uu22 uu12 uu11 (fun gv11=>fi68 w1 e1 (F73 w1 e1) (condF h1 (condF h5 (condF h9 (condF h10 rfl)))))))))) uu3
def F67_s0 (w1:Ub):(List Uc×List HelloWord)->Lp (List Uc×List HelloWord) Ub:=fun (w4,w5) =>
 bif (decide ((w5.length:Int)>0)) then (.next ((F72 ⟨w4,w5⟩ 0).Sides,(F72 ⟨w4,w5⟩ 0).Radio)) else (.done (w4,w5))
def F67_j0 (w1:Ub):Lp (List Uc×List HelloWord) Ub :=
 (runL (F67_s0 w1) (((w1.Radio.length:Int)-0).toNat+1) (w1.Sides,w1.Radio)).fin Lp.ret (fun (w4,w5)=>.done (w4,w5))
def F67_s1 (w1:Ub) (w2:List Uc) (w3:List HelloWord):(List Uc×List HelloWord)->Lp (List Uc×List HelloWord) Ub:=fun (w8,w9) =>
 bif (decide ((w9.length:Int)>0)) then (.next ((F72 ⟨w8,w9⟩ 0).Sides,(F72 ⟨w8,w9⟩ 0).Radio)) else (.done (w8,w9))
def F67_j1 (w1:Ub) (w2:List Uc) (w3:List HelloWord):Lp (List Uc×List HelloWord) Ub :=
 (runL (F67_s1 w1 w2 w3) ((((F73 (F73 ⟨w2,w3⟩ ⟨1,0,[],[],(⟨0,0,0,0,0,0,0,0,(⟨0,(⟨0,0,0,0⟩:Ue)⟩:HelloChange),0⟩:HelloWord)⟩) ⟨1,1,[],[],(⟨0,0,0,0,0,0,0,0,(⟨0,(⟨0,0,0,0⟩:Ue)⟩:HelloChange),0⟩:HelloWord)⟩).Radio.length:Int)-0).toNat+1) ((F73 (F73 ⟨w2,w3⟩ ⟨1,0,[],[],(⟨0,0,0,0,0,0,0,0,(⟨0,(⟨0,0,0,0⟩:Ue)⟩:HelloChange),0⟩:HelloWord)⟩) ⟨1,1,[],[],(⟨0,0,0,0,0,0,0,0,(⟨0,(⟨0,0,0,0⟩:Ue)⟩:HelloChange),0⟩:HelloWord)⟩).Sides,(F73 (F73 ⟨w2,w3⟩ ⟨1,0,[],[],(⟨0,0,0,0,0,0,0,0,(⟨0,(⟨0,0,0,0⟩:Ue)⟩:HelloChange),0⟩:HelloWord)⟩) ⟨1,1,[],[],(⟨0,0,0,0,0,0,0,0,(⟨0,(⟨0,0,0,0⟩:Ue)⟩:HelloChange),0⟩:HelloWord)⟩).Radio)).fin Lp.ret (fun (w8,w9)=>.done (w8,w9))
def F67 (w1:Ub):Ub :=
 (F67_j0 w1).fin (fun r=>r) (fun (w2,w3)=>(F67_j1 w1 w2 w3).fin (fun r=>r) (fun (w6,w7)=>(F73 (F73 ⟨w6,w7⟩ ⟨5,0,[],[],(⟨0,0,0,0,0,0,0,0,(⟨0,(⟨0,0,0,0⟩:Ue)⟩:HelloChange),0⟩:HelloWord)⟩) ⟨5,1,[],[],(⟨0,0,0,0,0,0,0,0,(⟨0,(⟨0,0,0,0⟩:Ue)⟩:HelloChange),0⟩:HelloWord)⟩)))
abbrev lN67_0 (w1:Ub):Nat×(List Uc×List HelloWord):=((((w1.Radio.length:Int)-0).toNat+1),(w1.Sides,w1.Radio))
abbrev lI67_0 (m39:Nat) (w4:List Uc) (w5:List HelloWord):Prop:=Int.toNat ((w5.length:Int)-0)<m39/\F65 (⟨w4,w5⟩:Ub)=true
abbrev lX67_0 (w1:Ub):Lp (List Uc×List HelloWord) Ub:=LpX (F67_s0 w1) (lN67_0 w1)
abbrev lJ67_0 (w1:Ub) (i:Nat×(List Uc×List HelloWord)):Prop:=LpJ (F67_s0 w1) (lN67_0 w1) i (lI67_0 i.1 i.2.1 i.2.2)
abbrev lH67_0 (w1:Ub) (i:Nat×(List Uc×List HelloWord)) (m39:Nat) (w4:List Uc) (w5:List HelloWord):Prop:=LpH (F67_s0 w1) (lN67_0 w1) i m39 (w4,w5) (lI67_0 (m39+1) w4 w5)
abbrev lE67_0 (w4:List Uc) (w5:List HelloWord) (w4_:List Uc) (w5_:List HelloWord) (K39:Prop):Prop:=(Imp (.l 23 eHelloSide w4) (.l 23 eHelloSide w4_))/\(Imp (.l 14 eHelloWord w5) (.l 14 eHelloWord w5_))/\(Rf (.slice none 0 0))/\(Rf (.slice none 0 0))/\K39
theorem un67_0 (w1:Ub) (i:Nat×(List Uc×List HelloWord)) (h:lJ67_0 w1 i):lH67_0 w1 i (i.1-1) i.2.1 i.2.2:=⟨hd1 h.1 h.2.1,hd3 h.2.1,hd2 h.2.1,h.2.2⟩
theorem bk67_0 (w1:Ub) (i:Nat×(List Uc×List HelloWord)) (m39:Nat) (w4:List Uc) (w5:List HelloWord) (hl:m39<i.1) (e:runL (F67_s0 w1) m39 (w4,w5)=lX67_0 w1) (h:lI67_0 m39 w4 w5):∃ j:Nat×(List Uc×List HelloWord),lE67_0 w4 w5 j.2.1 j.2.2 (lJ67_0 w1 j/\j.1<i.1):=⟨(m39,(w4,w5)),Imp.refl _,Imp.refl _,rfl,rfl,⟨e,h⟩,hl⟩
theorem en67_0 (w1:Ub) (h:F65 (⟨w1.Sides,w1.Radio⟩:Ub)=true):lE67_0 w1.Sides w1.Radio w1.Sides w1.Radio (lJ67_0 w1 (lN67_0 w1)):=⟨Imp.refl _,Imp.refl _,rfl,rfl,rfl,Qr _,h⟩
abbrev jI67_0 (w1:Ub) (w2:List Uc) (w3:List HelloWord):Prop:=F65 (⟨w2,w3⟩:Ub)=true/\True
abbrev jJ67_0 (w1:Ub) (j:List Uc×List HelloWord):Prop:=(F67_j0 w1)=Lp.done j/\jI67_0 w1 j.1 j.2
theorem jn67_0 (w1:Ub) (w2:List Uc) (w3:List HelloWord) (e:(F67_j0 w1)=Lp.done (w2,w3)) (h:jI67_0 w1 w2 w3):∃ j:List Uc×List HelloWord,(Imp (.l 23 eHelloSide w2) (.l 23 eHelloSide j.1))/\(Imp (.l 14 eHelloWord w3) (.l 14 eHelloWord j.2))/\((.slice none 0 0:Value)=.slice none 0 0)/\((.slice none 0 0:Value)=.slice none 0 0)/\jJ67_0 w1 j:=⟨(w2,w3),Imp.refl _,Imp.refl _,rfl,rfl,e,h⟩
abbrev lN67_1 (w2:List Uc) (w3:List HelloWord):Nat×(List Uc×List HelloWord):=(((((F73 (F73 ⟨w2,w3⟩ ⟨1,0,[],[],(⟨0,0,0,0,0,0,0,0,(⟨0,(⟨0,0,0,0⟩:Ue)⟩:HelloChange),0⟩:HelloWord)⟩) ⟨1,1,[],[],(⟨0,0,0,0,0,0,0,0,(⟨0,(⟨0,0,0,0⟩:Ue)⟩:HelloChange),0⟩:HelloWord)⟩).Radio.length:Int)-0).toNat+1),((F73 (F73 ⟨w2,w3⟩ ⟨1,0,[],[],(⟨0,0,0,0,0,0,0,0,(⟨0,(⟨0,0,0,0⟩:Ue)⟩:HelloChange),0⟩:HelloWord)⟩) ⟨1,1,[],[],(⟨0,0,0,0,0,0,0,0,(⟨0,(⟨0,0,0,0⟩:Ue)⟩:HelloChange),0⟩:HelloWord)⟩).Sides,(F73 (F73 ⟨w2,w3⟩ ⟨1,0,[],[],(⟨0,0,0,0,0,0,0,0,(⟨0,(⟨0,0,0,0⟩:Ue)⟩:HelloChange),0⟩:HelloWord)⟩) ⟨1,1,[],[],(⟨0,0,0,0,0,0,0,0,(⟨0,(⟨0,0,0,0⟩:Ue)⟩:HelloChange),0⟩:HelloWord)⟩).Radio))
abbrev lI67_1 (m39:Nat) (w8:List Uc) (w9:List HelloWord):Prop:=Int.toNat ((w9.length:Int)-0)<m39/\F65 (⟨w8,w9⟩:Ub)=true
abbrev lX67_1 (w1:Ub) (w2:List Uc) (w3:List HelloWord):Lp (List Uc×List HelloWord) Ub:=LpX (F67_s1 w1 w2 w3) (lN67_1 w2 w3)
abbrev lJ67_1 (w1:Ub) (w2:List Uc) (w3:List HelloWord) (i:Nat×(List Uc×List HelloWord)):Prop:=LpJ (F67_s1 w1 w2 w3) (lN67_1 w2 w3) i (lI67_1 i.1 i.2.1 i.2.2)
abbrev lH67_1 (w1:Ub) (w2:List Uc) (w3:List HelloWord) (i:Nat×(List Uc×List HelloWord)) (m39:Nat) (w8:List Uc) (w9:List HelloWord):Prop:=LpH (F67_s1 w1 w2 w3) (lN67_1 w2 w3) i m39 (w8,w9) (lI67_1 (m39+1) w8 w9)
abbrev lE67_1 (w8:List Uc) (w9:List HelloWord) (w8_:List Uc) (w9_:List HelloWord) (K39:Prop):Prop:=(Imp (.l 23 eHelloSide w8) (.l 23 eHelloSide w8_))/\(Imp (.l 14 eHelloWord w9) (.l 14 eHelloWord w9_))/\(Rf (.slice none 0 0))/\(Rf (.slice none 0 0))/\K39
theorem un67_1 (w1:Ub) (w2:List Uc) (w3:List HelloWord) (i:Nat×(List Uc×List HelloWord)) (h:lJ67_1 w1 w2 w3 i):lH67_1 w1 w2 w3 i (i.1-1) i.2.1 i.2.2:=⟨hd1 h.1 h.2.1,hd3 h.2.1,hd2 h.2.1,h.2.2⟩
theorem bk67_1 (w1:Ub) (w2:List Uc) (w3:List HelloWord) (i:Nat×(List Uc×List HelloWord)) (m39:Nat) (w8:List Uc) (w9:List HelloWord) (hl:m39<i.1) (e:runL (F67_s1 w1 w2 w3) m39 (w8,w9)=lX67_1 w1 w2 w3) (h:lI67_1 m39 w8 w9):∃ j:Nat×(List Uc×List HelloWord),lE67_1 w8 w9 j.2.1 j.2.2 (lJ67_1 w1 w2 w3 j/\j.1<i.1):=⟨(m39,(w8,w9)),Imp.refl _,Imp.refl _,rfl,rfl,⟨e,h⟩,hl⟩
theorem en67_1 (w1:Ub) (w2:List Uc) (w3:List HelloWord) (h:F65 (⟨(F73 (F73 ⟨w2,w3⟩ ⟨1,0,[],[],(⟨0,0,0,0,0,0,0,0,(⟨0,(⟨0,0,0,0⟩:Ue)⟩:HelloChange),0⟩:HelloWord)⟩) ⟨1,1,[],[],(⟨0,0,0,0,0,0,0,0,(⟨0,(⟨0,0,0,0⟩:Ue)⟩:HelloChange),0⟩:HelloWord)⟩).Sides,(F73 (F73 ⟨w2,w3⟩ ⟨1,0,[],[],(⟨0,0,0,0,0,0,0,0,(⟨0,(⟨0,0,0,0⟩:Ue)⟩:HelloChange),0⟩:HelloWord)⟩) ⟨1,1,[],[],(⟨0,0,0,0,0,0,0,0,(⟨0,(⟨0,0,0,0⟩:Ue)⟩:HelloChange),0⟩:HelloWord)⟩).Radio⟩:Ub)=true):lE67_1 (F73 (F73 ⟨w2,w3⟩ ⟨1,0,[],[],(⟨0,0,0,0,0,0,0,0,(⟨0,(⟨0,0,0,0⟩:Ue)⟩:HelloChange),0⟩:HelloWord)⟩) ⟨1,1,[],[],(⟨0,0,0,0,0,0,0,0,(⟨0,(⟨0,0,0,0⟩:Ue)⟩:HelloChange),0⟩:HelloWord)⟩).Sides (F73 (F73 ⟨w2,w3⟩ ⟨1,0,[],[],(⟨0,0,0,0,0,0,0,0,(⟨0,(⟨0,0,0,0⟩:Ue)⟩:HelloChange),0⟩:HelloWord)⟩) ⟨1,1,[],[],(⟨0,0,0,0,0,0,0,0,(⟨0,(⟨0,0,0,0⟩:Ue)⟩:HelloChange),0⟩:HelloWord)⟩).Radio (F73 (F73 ⟨w2,w3⟩ ⟨1,0,[],[],(⟨0,0,0,0,0,0,0,0,(⟨0,(⟨0,0,0,0⟩:Ue)⟩:HelloChange),0⟩:HelloWord)⟩) ⟨1,1,[],[],(⟨0,0,0,0,0,0,0,0,(⟨0,(⟨0,0,0,0⟩:Ue)⟩:HelloChange),0⟩:HelloWord)⟩).Sides (F73 (F73 ⟨w2,w3⟩ ⟨1,0,[],[],(⟨0,0,0,0,0,0,0,0,(⟨0,(⟨0,0,0,0⟩:Ue)⟩:HelloChange),0⟩:HelloWord)⟩) ⟨1,1,[],[],(⟨0,0,0,0,0,0,0,0,(⟨0,(⟨0,0,0,0⟩:Ue)⟩:HelloChange),0⟩:HelloWord)⟩).Radio (lJ67_1 w1 w2 w3 (lN67_1 w2 w3)):=⟨Imp.refl _,Imp.refl _,rfl,rfl,rfl,Qr _,h⟩
abbrev jI67_1 (w1:Ub) (w2:List Uc) (w3:List HelloWord) (w6:List Uc) (w7:List HelloWord):Prop:=F65 (⟨w6,w7⟩:Ub)=true/\True
abbrev jJ67_1 (w1:Ub) (w2:List Uc) (w3:List HelloWord) (j:List Uc×List HelloWord):Prop:=(F67_j1 w1 w2 w3)=Lp.done j/\jI67_1 w1 w2 w3 j.1 j.2
theorem jn67_1 (w1:Ub) (w2:List Uc) (w3:List HelloWord) (w6:List Uc) (w7:List HelloWord) (e:(F67_j1 w1 w2 w3)=Lp.done (w6,w7)) (h:jI67_1 w1 w2 w3 w6 w7):∃ j:List Uc×List HelloWord,(Imp (.l 23 eHelloSide w6) (.l 23 eHelloSide j.1))/\(Imp (.l 14 eHelloWord w7) (.l 14 eHelloWord j.2))/\((.slice none 0 0:Value)=.slice none 0 0)/\((.slice none 0 0:Value)=.slice none 0 0)/\jJ67_1 w1 w2 w3 j:=⟨(w6,w7),Imp.refl _,Imp.refl _,rfl,rfl,e,h⟩
theorem fi67 (w1:Ub) (r:Ub) (hF:r=(F67 w1)):(Imp (.l 23 eHelloSide r.Sides) (.l 23 eHelloSide (F67 w1).Sides))/\(Imp (.l 14 eHelloWord r.Radio) (.l 14 eHelloWord (F67 w1).Radio))/\True:=by cases hF; exact ⟨Imp.refl _,Imp.refl _,trivial⟩
def S67 (w1:Ub):Spec:=⟨[.ot (eHelloWorld w1)],.ag [.ow (.l 23 eHelloSide (F67 w1).Sides),.ow (.l 14 eHelloWord (F67 w1).Radio)],F65 w1=true/\w1.Sides.length=2/\(∀ k:Nat,EndFit (w1.Sides.getD k default).End)/\w1.Radio.length<=12⟩
abbrev q67_1 (w2:List Uc) (w3:List HelloWord):=(F73 ⟨w2,w3⟩ ⟨1,0,[],[],(⟨0,0,0,0,0,0,0,0,(⟨0,(⟨0,0,0,0⟩:Ue)⟩:HelloChange),0⟩:HelloWord)⟩)
abbrev q67_2 (w6:List Uc) (w7:List HelloWord):=(F73 ⟨w6,w7⟩ ⟨5,0,[],[],(⟨0,0,0,0,0,0,0,0,(⟨0,(⟨0,0,0,0⟩:Ue)⟩:HelloChange),0⟩:HelloWord)⟩)
abbrev q67_3 (w2:List Uc) (w3:List HelloWord):=(F73 (q67_1 w2 w3) ⟨1,1,[],[],(⟨0,0,0,0,0,0,0,0,(⟨0,(⟨0,0,0,0⟩:Ue)⟩:HelloChange),0⟩:HelloWord)⟩)
abbrev q67_4 (w6:List Uc) (w7:List HelloWord):=(F73 (q67_2 w6 w7) ⟨5,1,[],[],(⟨0,0,0,0,0,0,0,0,(⟨0,(⟨0,0,0,0⟩:Ue)⟩:HelloChange),0⟩:HelloWord)⟩)
theorem ok67 (w1:Ub):(S67 w1).ok Try.prog 67 :=
 fnG_ok mixed (fn:=Try.f67) (ct:=.seq .no (.cut (ι:=List Uc×List HelloWord) (fun j=>(fun (w2:List Uc) (w3:List HelloWord)=>(⟨[(1,some (.p 0 0)),(2,some (.p 3 0))],[(0,some (.box 82 [.h 1 0,.h 2 0])),(1,some (.own 1 (.l 23 eHelloSide w2))),(2,some (.own 2 (.l 14 eHelloWord w3))),(3,some (.box 82 [.v (.slice none 0 0),.v (.slice none 0 0)]))],4⟩:St)) j.1 j.2) (jJ67_0 w1) (.blk (.loop (ι:=Nat×(List Uc×List HelloWord)) (fun i=>(fun (w4:List Uc) (w5:List HelloWord)=>(⟨[(1,some (.p 0 0)),(2,some (.p 3 0))],[(0,some (.box 82 [.h 1 0,.h 2 0])),(1,some (.own 1 (.l 23 eHelloSide w4))),(2,some (.own 2 (.l 14 eHelloWord w5))),(3,some (.box 82 [.v (.slice none 0 0),.v (.slice none 0 0)]))],4⟩:St)) i.2.1 i.2.2) (lJ67_0 w1) (fun i=>i.1) (lN67_0 w1) (fun i=>(fun (w4:List Uc) (w5:List HelloWord)=>(.seq (.seq .no (.cond .no .no)) (.blk (.reg [(1,.call 72 (S72 (⟨w4,w5⟩:Ub) 0) (ok72 (⟨w4,w5⟩:Ub) 0) none)])))) i.2.1 i.2.2))) (fun j=>(fun (w2:List Uc) (w3:List HelloWord)=>(.seq (.reg [(2,.call 73 (S73 (⟨w2,w3⟩:Ub) (⟨1,0,[],[],(⟨0,0,0,0,0,0,0,0,(⟨0,(⟨0,0,0,0⟩:Ue)⟩:HelloChange),0⟩:HelloWord)⟩:HelloEvent)) (ok73 (⟨w2,w3⟩:Ub) (⟨1,0,[],[],(⟨0,0,0,0,0,0,0,0,(⟨0,(⟨0,0,0,0⟩:Ue)⟩:HelloChange),0⟩:HelloWord)⟩:HelloEvent)) none)]) (.seqk [(1,0),(1,1)] (.reg [(2,.call 73 (S73 (q67_1 w2 w3) (⟨1,1,[],[],(⟨0,0,0,0,0,0,0,0,(⟨0,(⟨0,0,0,0⟩:Ue)⟩:HelloChange),0⟩:HelloWord)⟩:HelloEvent)) (ok73 (q67_1 w2 w3) (⟨1,1,[],[],(⟨0,0,0,0,0,0,0,0,(⟨0,(⟨0,0,0,0⟩:Ue)⟩:HelloChange),0⟩:HelloWord)⟩:HelloEvent)) none)]) (.cut (ι:=List Uc×List HelloWord) (fun j=>(fun (w6:List Uc) (w7:List HelloWord)=>(⟨[(1,some (.p 0 0)),(2,some (.p 3 0))],[(0,some (.box 82 [.h 1 0,.h 2 0])),(1,some (.own 1 (.l 23 eHelloSide w6))),(2,some (.own 2 (.l 14 eHelloWord w7))),(3,some (.box 82 [.v (.slice none 0 0),.v (.slice none 0 0)]))],4⟩:St)) j.1 j.2) (jJ67_1 w1 w2 w3) (.blk (.loop (ι:=Nat×(List Uc×List HelloWord)) (fun i=>(fun (w8:List Uc) (w9:List HelloWord)=>(⟨[(1,some (.p 0 0)),(2,some (.p 3 0))],[(0,some (.box 82 [.h 1 0,.h 2 0])),(1,some (.own 1 (.l 23 eHelloSide w8))),(2,some (.own 2 (.l 14 eHelloWord w9))),(3,some (.box 82 [.v (.slice none 0 0),.v (.slice none 0 0)]))],4⟩:St)) i.2.1 i.2.2) (lJ67_1 w1 w2 w3) (fun i=>i.1) (lN67_1 w2 w3) (fun i=>(fun (w8:List Uc) (w9:List HelloWord)=>(.seq (.seq .no (.cond .no .no)) (.blk (.reg [(1,.call 72 (S72 (⟨w8,w9⟩:Ub) 0) (ok72 (⟨w8,w9⟩:Ub) 0) none)])))) i.2.1 i.2.2))) (fun j=>(fun (w6:List Uc) (w7:List HelloWord)=>(.seq (.reg [(2,.call 73 (S73 (⟨w6,w7⟩:Ub) (⟨5,0,[],[],(⟨0,0,0,0,0,0,0,0,(⟨0,(⟨0,0,0,0⟩:Ue)⟩:HelloChange),0⟩:HelloWord)⟩:HelloEvent)) (ok73 (⟨w6,w7⟩:Ub) (⟨5,0,[],[],(⟨0,0,0,0,0,0,0,0,(⟨0,(⟨0,0,0,0⟩:Ue)⟩:HelloChange),0⟩:HelloWord)⟩:HelloEvent)) none)]) (.seq (.reg [(2,.call 73 (S73 (q67_2 w6 w7) (⟨5,1,[],[],(⟨0,0,0,0,0,0,0,0,(⟨0,(⟨0,0,0,0⟩:Ue)⟩:HelloChange),0⟩:HelloWord)⟩:HelloEvent)) (ok73 (q67_2 w6 w7) (⟨5,1,[],[],(⟨0,0,0,0,0,0,0,0,(⟨0,(⟨0,0,0,0⟩:Ue)⟩:HelloChange),0⟩:HelloWord)⟩:HelloEvent)) none)]) .no))) j.1 j.2))))) j.1 j.2))) Try.func67 (fun (hp:F65 w1=true/\w1.Sides.length=2/\(∀ k:Nat,EndFit (w1.Sides.getD k default).End)/\w1.Radio.length<=12)=>have hpre0:=hp.1; have hpre1:=hp.2.1; have hpre2:=hp.2.2.1; have hpre3:=hp.2.2.2; ai (ai (en67_0 w1 uu0) (fun (i0:Nat×(List Uc×List HelloWord)) (hi0:lJ67_0 w1 i0)=>(fun (m0:Nat) (w4:List Uc) (w5:List HelloWord) (hh0:lH67_0 w1 i0 m0 w4 w5)=>have hI0:=hh0.1; have hl0:=hh0.2.1; have _:=hh0.2.2.1; have _:=hh0.2.2.2; ifd ((w5.length:Int)>0) (fun h2 _=>ai (ai (uu4:F65 (⟨w4,w5⟩:Ub)=true) (ai (uu4:w4.length=2) (ai (uu4:∀ k:Nat,EndFit (w4.getD k default).End) (ai (uu4:w5.length<=12) (ai (uu4:0<=(0:Int)) (uu4:(0:Int)<(w5.length:Int))))))) (ai (Imps.refl (eHelloWorld (⟨w4,w5⟩:Ub))) (ai (Imp.refl (.v (vI 0))) (have gv3:F65 (F72 ⟨w4,w5⟩ 0)=true:=bring_ok (⟨w4,w5⟩:Ub) 0 (uu4:F65 (⟨w4,w5⟩:Ub)=true) (uu4:0<=(0:Int)); have gv4:(F72 ⟨w4,w5⟩ 0).Radio.length+1=w5.length:=bring_len (⟨w4,w5⟩:Ub) 0 (uu4:0<=(0:Int)) (uu4:(0:Int)<(w5.length:Int)); bk67_0 w1 i0 m0 (F72 ⟨w4,w5⟩ 0).Sides (F72 ⟨w4,w5⟩ 0).Radio hl0 (runL_next hI0 (condT h2 rfl)) uu10)))) (fun h2 _=>have hD0_5:lX67_0 w1=Lp.done (w4,w5):=runL_done hI0 (condF h2 rfl); jn67_0 w1 w4 w5 (Q5 (finD hD0_5 rfl)) uu39)) (i0.1-1) i0.2.1 i0.2.2 (un67_0 w1 i0 hi0))) (fun (j:List Uc×List HelloWord) (hj:jJ67_0 w1 j)=>(fun (w2:List Uc) (w3:List HelloWord) (hJ0_6:(F67_j0 w1)=Lp.done (w2,w3)) (hw:jI67_0 w1 w2 w3)=>have _:=hw.1; ai (ai (uu4:F65 (⟨w2,w3⟩:Ub)=true) (ai (uu4:w2.length=2) (ai (uu4:∀ k:Nat,EndFit (w2.getD k default).End) (uu4:w3.length<=12)))) (ai (Imps.refl (eHelloWorld (⟨w2,w3⟩:Ub))) (ai (ai (Imp.refl (.v (vI 1))) (ai (Imp.refl (.v (vI 0))) (ai (Imp.nil 4 eHelloEntry) (ai (Imp.nil 2 eHelloKey) (ai (Imp.refl (.v (vI 0))) (ai (Imp.refl (.v (vI 0))) (ai (Imp.refl (.v (vI 0))) (ai (Imp.refl (.v (vI 0))) (ai (Imp.refl (.v (vI 0))) (ai (Imp.refl (.v (vI 0))) (ai (Imp.refl (.v (vI 0))) (ai (Imp.refl (.v (vI 0))) (ai (Imp.refl (.v (vI 0))) (ai (Imp.refl (.v (vI 0))) (ai (Imp.refl (.v (vI 0))) (ai (Imp.refl (.v (vI 0))) (ai (Imp.refl (.v (vI 0))) (ai (Imp.refl (.v (vI 0))) trivial)))))))))))))))))) (have gv7:F65 (q67_1 w2 w3)=true:=sideB_ok (⟨w2,w3⟩:Ub) (⟨1,0,[],[],(⟨0,0,0,0,0,0,0,0,(⟨0,(⟨0,0,0,0⟩:Ue)⟩:HelloChange),0⟩:HelloWord)⟩:HelloEvent) (uu4:F65 (⟨w2,w3⟩:Ub)=true); ai (ai (uu4:F65 (q67_1 w2 w3)=true) (ai (uu4:(q67_1 w2 w3).Sides.length=2) (ai (uu4:∀ k:Nat,EndFit ((q67_1 w2 w3).Sides.getD k default).End) (uu4:(q67_1 w2 w3).Radio.length<=12)))) (ai (Imps.refl (eHelloWorld (q67_1 w2 w3))) (ai (ai (Imp.refl (.v (vI 1))) (ai (Imp.refl (.v (vI 1))) (ai (Imp.nil 4 eHelloEntry) (ai (Imp.nil 2 eHelloKey) (ai (Imp.refl (.v (vI 0))) (ai (Imp.refl (.v (vI 0))) (ai (Imp.refl (.v (vI 0))) (ai (Imp.refl (.v (vI 0))) (ai (Imp.refl (.v (vI 0))) (ai (Imp.refl (.v (vI 0))) (ai (Imp.refl (.v (vI 0))) (ai (Imp.refl (.v (vI 0))) (ai (Imp.refl (.v (vI 0))) (ai (Imp.refl (.v (vI 0))) (ai (Imp.refl (.v (vI 0))) (ai (Imp.refl (.v (vI 0))) (ai (Imp.refl (.v (vI 0))) (ai (Imp.refl (.v (vI 0))) trivial)))))))))))))))))) (have gv8:F65 (q67_3 w2 w3)=true:=sideB_ok (q67_1 w2 w3) (⟨1,1,[],[],(⟨0,0,0,0,0,0,0,0,(⟨0,(⟨0,0,0,0⟩:Ue)⟩:HelloChange),0⟩:HelloWord)⟩:HelloEvent) (uu4:F65 (q67_1 w2 w3)=true); kn (q67_3 w2 w3).Sides fun _=>kn (q67_3 w2 w3).Radio fun _=>ai (ai (en67_1 w1 w2 w3 uu0) (fun (i1:Nat×(List Uc×List HelloWord)) (hi1:lJ67_1 w1 w2 w3 i1)=>(fun (m1:Nat) (w8:List Uc) (w9:List HelloWord) (hh1:lH67_1 w1 w2 w3 i1 m1 w8 w9)=>have hI1:=hh1.1; have hl1:=hh1.2.1; have _:=hh1.2.2.1; have _:=hh1.2.2.2; ifd ((w9.length:Int)>0) (fun h10 _=>ai (ai (uu4:F65 (⟨w8,w9⟩:Ub)=true) (ai (uu4:w8.length=2) (ai (uu4:∀ k:Nat,EndFit (w8.getD k default).End) (ai (uu4:w9.length<=12) (ai (uu4:0<=(0:Int)) (uu4:(0:Int)<(w9.length:Int))))))) (ai (Imps.refl (eHelloWorld (⟨w8,w9⟩:Ub))) (ai (Imp.refl (.v (vI 0))) (have gv11:F65 (F72 ⟨w8,w9⟩ 0)=true:=bring_ok (⟨w8,w9⟩:Ub) 0 (uu4:F65 (⟨w8,w9⟩:Ub)=true) (uu4:0<=(0:Int)); have gv12:(F72 ⟨w8,w9⟩ 0).Radio.length+1=w9.length:=bring_len (⟨w8,w9⟩:Ub) 0 (uu4:0<=(0:Int)) (uu4:(0:Int)<(w9.length:Int)); bk67_1 w1 w2 w3 i1 m1 (F72 ⟨w8,w9⟩ 0).Sides (F72 ⟨w8,w9⟩ 0).Radio hl1 (runL_next hI1 (condT h10 rfl)) uu10)))) (fun h10 _=>have hD1_13:lX67_1 w1 w2 w3=Lp.done (w8,w9):=runL_done hI1 (condF h10 rfl); jn67_1 w1 w2 w3 w8 w9 (Q5 (finD hD1_13 rfl)) uu39)) (i1.1-1) i1.2.1 i1.2.2 (un67_1 w1 w2 w3 i1 hi1))) (fun (j:List Uc×List HelloWord) (hj:jJ67_1 w1 w2 w3 j)=>(fun (w6:List Uc) (w7:List HelloWord) (hJ1_14:(F67_j1 w1 w2 w3)=Lp.done (w6,w7)) (hw:jI67_1 w1 w2 w3 w6 w7)=>have _:=hw.1; ai (ai (uu4:F65 (⟨w6,w7⟩:Ub)=true) (ai (uu4:w6.length=2) (ai (uu4:∀ k:Nat,EndFit (w6.getD k default).End) (uu4:w7.length<=12)))) (ai (Imps.refl (eHelloWorld (⟨w6,w7⟩:Ub))) (ai (ai (Imp.refl (.v (vI 5))) (ai (Imp.refl (.v (vI 0))) (ai (Imp.nil 4 eHelloEntry) (ai (Imp.nil 2 eHelloKey) (ai (Imp.refl (.v (vI 0))) (ai (Imp.refl (.v (vI 0))) (ai (Imp.refl (.v (vI 0))) (ai (Imp.refl (.v (vI 0))) (ai (Imp.refl (.v (vI 0))) (ai (Imp.refl (.v (vI 0))) (ai (Imp.refl (.v (vI 0))) (ai (Imp.refl (.v (vI 0))) (ai (Imp.refl (.v (vI 0))) (ai (Imp.refl (.v (vI 0))) (ai (Imp.refl (.v (vI 0))) (ai (Imp.refl (.v (vI 0))) (ai (Imp.refl (.v (vI 0))) (ai (Imp.refl (.v (vI 0))) trivial)))))))))))))))))) (have gv15:F65 (q67_2 w6 w7)=true:=sideB_ok (⟨w6,w7⟩:Ub) (⟨5,0,[],[],(⟨0,0,0,0,0,0,0,0,(⟨0,(⟨0,0,0,0⟩:Ue)⟩:HelloChange),0⟩:HelloWord)⟩:HelloEvent) (uu4:F65 (⟨w6,w7⟩:Ub)=true); ai (ai (uu4:F65 (q67_2 w6 w7)=true) (ai (uu4:(q67_2 w6 w7).Sides.length=2) (ai (uu4:∀ k:Nat,EndFit ((q67_2 w6 w7).Sides.getD k default).End) (uu4:(q67_2 w6 w7).Radio.length<=12)))) (ai (Imps.refl (eHelloWorld (q67_2 w6 w7))) (ai (ai (Imp.refl (.v (vI 5))) (ai (Imp.refl (.v (vI 1))) (ai (Imp.nil 4 eHelloEntry) (ai (Imp.nil 2 eHelloKey) (ai (Imp.refl (.v (vI 0))) (ai (Imp.refl (.v (vI 0))) (ai (Imp.refl (.v (vI 0))) (ai (Imp.refl (.v (vI 0))) (ai (Imp.refl (.v (vI 0))) (ai (Imp.refl (.v (vI 0))) (ai (Imp.refl (.v (vI 0))) (ai (Imp.refl (.v (vI 0))) (ai (Imp.refl (.v (vI 0))) (ai (Imp.refl (.v (vI 0))) (ai (Imp.refl (.v (vI 0))) (ai (Imp.refl (.v (vI 0))) (ai (Imp.refl (.v (vI 0))) (ai (Imp.refl (.v (vI 0))) trivial)))))))))))))))))) (have gv16:F65 (q67_4 w6 w7)=true:=sideB_ok (q67_2 w6 w7) (⟨5,1,[],[],(⟨0,0,0,0,0,0,0,0,(⟨0,(⟨0,0,0,0⟩:Ue)⟩:HelloChange),0⟩:HelloWord)⟩:HelloEvent) (uu4:F65 (q67_2 w6 w7)=true); fi67 w1 (q67_4 w6 w7) (finD hJ0_6 (finD hJ1_14 rfl))))))))) j.1 j.2 hj.1 hj.2)))))))) j.1 j.2 hj.1 hj.2)) uu3
theorem wword_ok {w:Ub} (e:HelloEvent) (h:WldOk w):WldOk (F74 w e):=by
 unfold F74
 by_cases ha:0<=e.At/\e.At<=(w.Radio.length:Int)-1
 ·rw [Qv ha,Rw,Qj]
  cases (e.Kind==2) with
  | true=>exact bring_ok' h ha.1
  | false =>
   rw [Qj]
   have hlt:Int.toNat e.At<w.Radio.length:=by omega
   cases (e.Kind==3) with
   | true=>exact wput_ok h (h.wd _ (by rw [getD_lt _ hlt]; exact Sg hlt))
   | false =>
    rw [Qj,T1]
    have hs:(w.Radio.take (Int.toNat e.At)++w.Radio.drop (e.At+1).toNat).Sublist w.Radio:=by
     rw [show Int.toNat (e.At+1)=Int.toNat e.At+1 by omega]; exact without_sub _ _
    exact wld_radio h (Qs hs.length_le h.rad) fun x hx=>h.wd x (hs.subset hx)
 ·rw [Qw ha]; exact h
theorem do_ok' {w:Ub} (e:HelloEvent) (h:WldOk w):WldOk (F68 w e):=by
 unfold F68
 have h1:=wword_ok e h
 have h2:=forge_ok' e.Word h
 have h3:=side_ok e h
 cases (e.Kind==2) <;> cases (e.Kind==3) <;> cases (e.Kind==4) <;> cases (e.Kind==10) <;> assumption
theorem do_ok (w:Ub) (e:HelloEvent) (h:F65 w=true):F65 (F68 w e)=true:=(worldOk_iff _).2 (do_ok' e ((worldOk_iff _).1 h))
theorem wld_eta {w:Ub} (h:WldOk w):WldOk ⟨w.Sides,w.Radio⟩:=h
theorem round_ok' {w:Ub} (h:WldOk w):WldOk (F67 w):=by
 unfold F67
 refine fin_inv (I:=fun s:List Uc×List HelloWord=>WldOk ⟨s.1,s.2⟩) (J:=fun r=>WldOk r) ?_ (fun _ h=>h) (fun s h1=>?_)
 ·unfold F67_j0
  refine fin_inv (I:=fun s:List Uc×List HelloWord=>WldOk ⟨s.1,s.2⟩) (J:=fun r=>WldOk r) (K:=Lp.all (fun s:List Uc×List HelloWord=>WldOk ⟨s.1,s.2⟩) (fun r:Ub=>WldOk r)) (runL_inv _ _ (fun s hs=>?_) _ _ h) (fun _ h=>h) (fun s hs=>hs)
  obtain ⟨a,b⟩:=s
  unfold F67_s0
  dsimp only
  cases decide ((b.length:Int)>0) with
  | true=>exact wld_eta (bring_ok' hs (Int.le_refl 0))
  | false=>exact hs
 ·obtain ⟨a,b⟩:=s
  refine fin_inv (I:=fun s:List Uc×List HelloWord=>WldOk ⟨s.1,s.2⟩) (J:=fun r=>WldOk r) ?_ (fun _ h=>h) (fun s h2=>?_)
  ·unfold F67_j1
   refine fin_inv (I:=fun s:List Uc×List HelloWord=>WldOk ⟨s.1,s.2⟩) (J:=fun r=>WldOk r) (K:=Lp.all (fun s:List Uc×List HelloWord=>WldOk ⟨s.1,s.2⟩) (fun r:Ub=>WldOk r)) (runL_inv _ _ (fun s hs=>?_) _ _ (wld_eta (side_ok _ (side_ok _ h1)))) (fun _ h=>h) (fun s hs=>hs)
   obtain ⟨a,b⟩:=s
   unfold F67_s1
   dsimp only
   cases decide ((b.length:Int)>0) with
   | true=>exact wld_eta (bring_ok' hs (Int.le_refl 0))
   | false=>exact hs
  ·obtain ⟨a,b⟩:=s
   exact side_ok _ (side_ok _ h2)
theorem round_ok (w:Ub) (h:F65 w=true):F65 (F67 w)=true:=(worldOk_iff _).2 (round_ok' ((worldOk_iff _).1 h))
theorem kc65l (w1:Ub) {K_:Prop} (k_:K_):(True)/\(Imps (eHelloWorld w1) (eHelloWorld w1))/\K_:=⟨trivial,Imps.refl _,k_⟩
abbrev kh65l (w1:Ub):Hint true Try.prog:=.call 65 (S65 w1) (ok65 w1) none
theorem kc66l (w1:Ub) {K_:Prop} (p0_:w1.Sides.length=2) (p1_:∀ k:Nat,EndFit (w1.Sides.getD k default).End) (p2_:w1.Radio.length<=12) (q0_:F65 w1=true) (k_:(F65 (F66 w1)=true)->K_):(w1.Sides.length=2/\(∀ k:Nat,EndFit (w1.Sides.getD k default).End)/\w1.Radio.length<=12)/\(Imps (eHelloWorld w1) (eHelloWorld w1))/\K_:=⟨⟨p0_,p1_,p2_⟩,Imps.refl _,k_ (copy_ok w1 q0_)⟩
abbrev kh66l (w1:Ub):Hint true Try.prog:=.call 66 (S66 w1) (ok66 w1) none
theorem kc68l (w1:Ub) (e1:HelloEvent) {K_:Prop} (p0_:F65 w1=true) (p1_:w1.Sides.length=2) (p2_:∀ k:Nat,EndFit (w1.Sides.getD k default).End) (p3_:w1.Radio.length<=12) (q0_:F65 w1=true) (k_:(F65 (F68 w1 e1)=true)->K_):(F65 w1=true/\w1.Sides.length=2/\(∀ k:Nat,EndFit (w1.Sides.getD k default).End)/\w1.Radio.length<=12)/\(Imps (eHelloWorld w1) (eHelloWorld w1))/\(Imps (eHelloEvent e1) (eHelloEvent e1))/\K_:=⟨⟨p0_,p1_,p2_,p3_⟩,Imps.refl _,Imps.refl _,k_ (do_ok w1 e1 q0_)⟩
abbrev kh68l (w1:Ub) (e1:HelloEvent):Hint true Try.prog:=.call 68 (S68 w1 e1) (ok68 w1 e1) none
def F56 (w1:Ub) (e1:HelloEvent):Ub :=
 bif (!(F65 w1)) then (⟨[],[]⟩:Ub) else (F66 (F68 (F66 w1) e1))
theorem fi56 (w1:Ub) (e1:HelloEvent) (r:Ub) (hF:r=(F56 w1 e1)):(Imp (.l 23 eHelloSide r.Sides) (.l 23 eHelloSide (F56 w1 e1).Sides))/\(Imp (.l 14 eHelloWord r.Radio) (.l 14 eHelloWord (F56 w1 e1).Radio))/\True:=by cases hF; exact ⟨Imp.refl _,Imp.refl _,trivial⟩
def S56 (w1:Ub) (e1:HelloEvent):Spec:=⟨[.r (.g (eHelloWorld w1)),.r (.g (eHelloEvent e1))],.ag [.ow (.l 23 eHelloSide (F56 w1 e1).Sides),.ow (.l 14 eHelloWord (F56 w1 e1).Radio)],True⟩
theorem ok56 (w1:Ub) (e1:HelloEvent):(S56 w1 e1).ok Try.prog 56 :=
 fnG_ok mixed (fn:=Try.f56) (ct:=.seq .no (.seq (.seq (.reg [(1,kh65l w1)]) (.cond (.seq .no .no) .no)) (.seq (.reg [(1,kh66l w1),(3,kh68l (F66 w1) e1),(4,kh66l (F68 (F66 w1) e1))]) .no))) Try.func56 (fun (_:True)=>kc65l w1 (ifb (!(F65 w1)) (fun h1=>(fun hF:((⟨[],[]⟩:Ub):Ub)=(F56 w1 e1)=>ai ((Imp.nil 23 eHelloSide).trans (Imp.of_eq (Qa (fun r:Ub=>Dat.l 23 eHelloSide r.Sides) hF))) (ai ((Imp.nil 14 eHelloWord).trans (Imp.of_eq (Qa (fun r:Ub=>Dat.l 14 eHelloWord r.Radio) hF))) trivial)) (condT h1 rfl)) (fun h1=>have _:w1.Sides.length=2:=worldS_two w1 (notEF h1); have _:∀ k:Nat,EndFit (w1.Sides.getD k default).End:=worldS_fit w1 (notEF h1); have _:w1.Radio.length<=12:=worldS_radio w1 (notEF h1); kc66l w1 uu13 uu31 uu12 uu11 (fun gv2=>kc68l (F66 w1) e1 uu11 uu13 uu31 uu12 uu11 (fun gv3=>kc66l (F68 (F66 w1) e1) uu13 uu31 uu12 uu11 (fun gv4=>fi56 w1 e1 (F66 (F68 (F66 w1) e1)) (condF h1 rfl))))))) uu3
def F55_s0 (w1:Ub) (rounds:Int):(Int×List Uc×List HelloWord)->Lp (Int×List Uc×List HelloWord) Ub:=fun (i40,x11,x12) =>
 bif (bif decide (i40<rounds) then decide (i40<100) else false) then (.next ((i40+1),(F67 ⟨x11,x12⟩).Sides,(F67 ⟨x11,x12⟩).Radio)) else (.done (i40,x11,x12))
def F55_j0 (w1:Ub) (rounds:Int):Lp (List Uc×List HelloWord) Ub :=
 (runL (F55_s0 w1 rounds) ((rounds-0).toNat+1) (0,(F66 w1).Sides,(F66 w1).Radio)).fin Lp.ret (fun (i40,x11,x12)=>.done (x11,x12))
def F55 (w1:Ub) (rounds:Int):Ub :=
 bif (!(F65 w1)) then (⟨[],[]⟩:Ub) else ((F55_j0 w1 rounds).fin (fun r=>r) (fun (x9,x10)=>(F66 ⟨x9,x10⟩)))
abbrev lN55_0 (w1:Ub) (rounds:Int):Nat×(Int×List Uc×List HelloWord):=(((rounds-0).toNat+1),(0,(F66 w1).Sides,(F66 w1).Radio))
abbrev lI55_0 (rounds:Int) (m39:Nat) (i40:Int) (x11:List Uc) (x12:List HelloWord):Prop:=Int.toNat (rounds-i40)<m39/\F65 (⟨x11,x12⟩:Ub)=true/\(0:Int)<=i40
abbrev lX55_0 (w1:Ub) (rounds:Int):Lp (Int×List Uc×List HelloWord) Ub:=LpX (F55_s0 w1 rounds) (lN55_0 w1 rounds)
abbrev lJ55_0 (w1:Ub) (rounds:Int) (i:Nat×(Int×List Uc×List HelloWord)):Prop:=LpJ (F55_s0 w1 rounds) (lN55_0 w1 rounds) i (lI55_0 rounds i.1 i.2.1 i.2.2.1 i.2.2.2)
abbrev lH55_0 (w1:Ub) (rounds:Int) (i:Nat×(Int×List Uc×List HelloWord)) (m39:Nat) (i40:Int) (x11:List Uc) (x12:List HelloWord):Prop:=LpH (F55_s0 w1 rounds) (lN55_0 w1 rounds) i m39 (i40,x11,x12) (lI55_0 rounds (m39+1) i40 x11 x12)
abbrev lE55_0 (rounds:Int) (i40:Int) (x11:List Uc) (x12:List HelloWord) (i40_:Int) (x11_:List Uc) (x12_:List HelloWord) (K39:Prop):Prop:=(Rf (.int .i64 rounds))/\((.int .i64 i40:Value)=.int .i64 i40_)/\(Rf (.slice none 0 0))/\(Rf (.slice none 0 0))/\(Imp (.l 23 eHelloSide x11) (.l 23 eHelloSide x11_))/\(Imp (.l 14 eHelloWord x12) (.l 14 eHelloWord x12_))/\K39
theorem un55_0 (w1:Ub) (rounds:Int) (i:Nat×(Int×List Uc×List HelloWord)) (h:lJ55_0 w1 rounds i):lH55_0 w1 rounds i (i.1-1) i.2.1 i.2.2.1 i.2.2.2:=⟨hd1 h.1 h.2.1,hd3 h.2.1,hd2 h.2.1,h.2.2⟩
theorem bk55_0 (w1:Ub) (rounds:Int) (i:Nat×(Int×List Uc×List HelloWord)) (m39:Nat) (i40:Int) (x11:List Uc) (x12:List HelloWord) (hl:m39<i.1) (e:runL (F55_s0 w1 rounds) m39 (i40,x11,x12)=lX55_0 w1 rounds) (h:lI55_0 rounds m39 i40 x11 x12):∃ j:Nat×(Int×List Uc×List HelloWord),lE55_0 rounds i40 x11 x12 j.2.1 j.2.2.1 j.2.2.2 (lJ55_0 w1 rounds j/\j.1<i.1):=⟨(m39,(i40,x11,x12)),rfl,rfl,rfl,rfl,Imp.refl _,Imp.refl _,⟨e,h⟩,hl⟩
theorem en55_0 (w1:Ub) (rounds:Int) (h:F65 (⟨(F66 w1).Sides,(F66 w1).Radio⟩:Ub)=true/\(0:Int)<=0):lE55_0 rounds 0 (F66 w1).Sides (F66 w1).Radio 0 (F66 w1).Sides (F66 w1).Radio (lJ55_0 w1 rounds (lN55_0 w1 rounds)):=⟨rfl,rfl,rfl,rfl,Imp.refl _,Imp.refl _,rfl,Qr _,h⟩
abbrev jI55_0 (w1:Ub) (rounds:Int) (x9:List Uc) (x10:List HelloWord):Prop:=F65 (⟨x9,x10⟩:Ub)=true/\True
abbrev jJ55_0 (w1:Ub) (rounds:Int) (j:List Uc×List HelloWord):Prop:=(F55_j0 w1 rounds)=Lp.done j/\jI55_0 w1 rounds j.1 j.2
theorem jn55_0 (w1:Ub) (rounds:Int) (x9:List Uc) (x10:List HelloWord) (e:(F55_j0 w1 rounds)=Lp.done (x9,x10)) (h:jI55_0 w1 rounds x9 x10):∃ j:List Uc×List HelloWord,((.slice none 0 0:Value)=.slice none 0 0)/\((.slice none 0 0:Value)=.slice none 0 0)/\(Imp (.l 23 eHelloSide x9) (.l 23 eHelloSide j.1))/\(Imp (.l 14 eHelloWord x10) (.l 14 eHelloWord j.2))/\jJ55_0 w1 rounds j:=⟨(x9,x10),rfl,rfl,Imp.refl _,Imp.refl _,e,h⟩
theorem fi55 (w1:Ub) (rounds:Int) (r:Ub) (hF:r=(F55 w1 rounds)):(Imp (.l 23 eHelloSide r.Sides) (.l 23 eHelloSide (F55 w1 rounds).Sides))/\(Imp (.l 14 eHelloWord r.Radio) (.l 14 eHelloWord (F55 w1 rounds).Radio))/\True:=by cases hF; exact ⟨Imp.refl _,Imp.refl _,trivial⟩
def S55 (w1:Ub) (rounds:Int):Spec:=⟨[.r (.g (eHelloWorld w1)),.r (.c (.v (vI rounds)))],.ag [.ow (.l 23 eHelloSide (F55 w1 rounds).Sides),.ow (.l 14 eHelloWord (F55 w1 rounds).Radio)],True⟩
theorem ok55 (w1:Ub) (rounds:Int):(S55 w1 rounds).ok Try.prog 55 :=
 fnG_ok mixed (fn:=Try.f55) (ct:=.seq .no (.seq (.seq (.reg [(1,kh65l w1)]) (.cond (.seq .no .no) .no)) (.seq (.reg [(1,kh66l w1)]) (.cut (ι:=List Uc×List HelloWord) (fun j=>(fun (x9:List Uc) (x10:List HelloWord)=>(⟨[(4,some (.p 0 0)),(5,some (.p 1 0))],[(0,some (.box 82 [.v (.slice none 0 0),.v (.slice none 0 0)])),(1,some (.box 82 [.h 2 0,.h 3 0])),(2,some (.own 2 (.l 23 eHelloSide x9))),(3,some (.own 3 (.l 14 eHelloWord x10)))],4⟩:St)) j.1 j.2) (jJ55_0 w1 rounds) (.seqk [(5,0),(5,1)] .no (.blk (.loop (ι:=Nat×(Int×List Uc×List HelloWord)) (fun i=>(fun (i40:Int) (x11:List Uc) (x12:List HelloWord)=>(⟨[(1,some (.v (vI rounds))),(4,some (.p 0 0)),(5,some (.p 1 0)),(6,some (.v (vI i40)))],[(0,some (.box 82 [.v (.slice none 0 0),.v (.slice none 0 0)])),(1,some (.box 82 [.h 2 0,.h 3 0])),(2,some (.own 2 (.l 23 eHelloSide x11))),(3,some (.own 3 (.l 14 eHelloWord x12)))],4⟩:St)) i.2.1 i.2.2.1 i.2.2.2) (lJ55_0 w1 rounds) (fun i=>i.1) (lN55_0 w1 rounds) (fun i=>(fun (i40:Int) (x11:List Uc) (x12:List HelloWord)=>(.seq (.seq .no (.cond .no .no)) (.seq (.blk (.reg [(1,.call 67 (S67 (⟨x11,x12⟩:Ub)) (ok67 (⟨x11,x12⟩:Ub)) none)])) (.reg [(1,.bnd)])))) i.2.1 i.2.2.1 i.2.2.2)))) (fun j=>(fun (x9:List Uc) (x10:List HelloWord)=>(.seq (.reg [(1,.call 66 (S66 (⟨x9,x10⟩:Ub)) (ok66 (⟨x9,x10⟩:Ub)) none)]) .no)) j.1 j.2))))) Try.func55 (fun (_:True)=>kc65l w1 (ifb (!(F65 w1)) (fun h1=>(fun hF:((⟨[],[]⟩:Ub):Ub)=(F55 w1 rounds)=>ai ((Imp.nil 23 eHelloSide).trans (Imp.of_eq (Qa (fun r:Ub=>Dat.l 23 eHelloSide r.Sides) hF))) (ai ((Imp.nil 14 eHelloWord).trans (Imp.of_eq (Qa (fun r:Ub=>Dat.l 14 eHelloWord r.Radio) hF))) trivial)) (condT h1 rfl)) (fun h1=>have _:w1.Sides.length=2:=worldS_two w1 (notEF h1); have _:∀ k:Nat,EndFit (w1.Sides.getD k default).End:=worldS_fit w1 (notEF h1); have _:w1.Radio.length<=12:=worldS_radio w1 (notEF h1); kc66l w1 uu16 uu16 uu16 uu16 (fun gv2=>ai (kn (F66 w1).Sides fun _=>kn (F66 w1).Radio fun _=>ai (en55_0 w1 rounds uu10) (fun (i0:Nat×(Int×List Uc×List HelloWord)) (hi0:lJ55_0 w1 rounds i0)=>(fun (m0:Nat) (i40:Int) (x11:List Uc) (x12:List HelloWord) (hh0:lH55_0 w1 rounds i0 m0 i40 x11 x12)=>have hI0:=hh0.1; have hl0:=hh0.2.1; have _:=hh0.2.2.1; have _:=hh0.2.2.2; ifb (bif decide (i40<rounds) then decide (i40<100) else false) (fun h4=>have _:=Qc (andT1 h4); have _:=Qc (andT2 h4); ai (ai (uu16:F65 (⟨x11,x12⟩:Ub)=true) (ai (uu16:x11.length=2) (ai (uu16:∀ k:Nat,EndFit (x11.getD k default).End) (uu16:x12.length<=12)))) (ai (Imps.refl (eHelloWorld (⟨x11,x12⟩:Ub))) (have gv5:F65 (F67 ⟨x11,x12⟩)=true:=round_ok (⟨x11,x12⟩:Ub) (uu16:F65 (⟨x11,x12⟩:Ub)=true); ai (iok (i40+1) uu0) (bk55_0 w1 rounds i0 m0 (i40+1) (F67 ⟨x11,x12⟩).Sides (F67 ⟨x11,x12⟩).Radio hl0 (runL_next hI0 (condT h4 rfl)) (by refine ⟨?_,?_,?_⟩ <;> omega))))) (fun h4=>have hD0_6:lX55_0 w1 rounds=Lp.done (i40,x11,x12):=runL_done hI0 (condF h4 rfl); jn55_0 w1 rounds x11 x12 (Q5 (finD hD0_6 rfl)) (by refine ⟨?_,?_⟩ <;> first | exact trivial | omega | (simp only [lens,ib] at*<;> omega) | assumption | exact T8 (by assumption:F65 (⟨x11,x12⟩:Ub)=true/\0<=i40)))) (i0.1-1) i0.2.1 i0.2.2.1 i0.2.2.2 (un55_0 w1 rounds i0 hi0))) (fun (j:List Uc×List HelloWord) (hj:jJ55_0 w1 rounds j)=>(fun (x9:List Uc) (x10:List HelloWord) (hJ0_7:(F55_j0 w1 rounds)=Lp.done (x9,x10)) (hw:jI55_0 w1 rounds x9 x10)=>have _:=hw.1; ai (ai (uu16:x9.length=2) (ai (uu16:∀ k:Nat,EndFit (x9.getD k default).End) (uu16:x10.length<=12))) (ai (Imps.refl (eHelloWorld (⟨x9,x10⟩:Ub))) (have gv8:F65 (F66 ⟨x9,x10⟩)=true:=copy_ok (⟨x9,x10⟩:Ub) (uu16:F65 (⟨x9,x10⟩:Ub)=true); fi55 w1 rounds (F66 ⟨x9,x10⟩) (condF h1 (finD hJ0_7 rfl))))) j.1 j.2 hj.1 hj.2))))) uu3
theorem kc70 (name:Int) (peer:Int) (keys:List HelloKey) (boot:Int) (want:List Ue) {K_:Prop} (p0_:keys.length<=1000000000) (p1_:want.length<=1000000000) (k_:K_):(keys.length<=1000000000/\want.length<=1000000000)/\(Imp (.v (vI name)) (.v (vI name)))/\(Imp (.v (vI peer)) (.v (vI peer)))/\(Imp (.l 2 eHelloKey keys) (.l 2 eHelloKey keys))/\(Imp (.v (vI boot)) (.v (vI boot)))/\(Imp (.l 4 eHelloEntry want) (.l 4 eHelloEntry want))/\K_:=⟨⟨p0_,p1_⟩,Imp.refl _,Imp.refl _,Imp.refl _,Imp.refl _,Imp.refl _,k_⟩
abbrev kh70 (name:Int) (peer:Int) (keys:List HelloKey) (boot:Int) (want:List Ue):Hint true Try.prog:=.call 70 (S70 name peer keys boot want) (ok70 name peer keys boot want) none
def F64 (a:Int) (b:Int) (keys:List HelloKey) (wantA:List Ue) (wantB:List Ue):Ub×Bool :=
 bif (!(F65 ⟨([(⟨true,(F70 a b keys 1 wantA)⟩:Uc),(⟨true,(F70 b a keys 1 wantB)⟩:Uc)]:List Uc),([]:List HelloWord)⟩)) then ((⟨[],[]⟩:Ub),false) else ((⟨([(⟨true,(F70 a b keys 1 wantA)⟩:Uc),(⟨true,(F70 b a keys 1 wantB)⟩:Uc)]:List Uc),([]:List HelloWord)⟩:Ub),true)
theorem fi64 (a:Int) (b:Int) (keys:List HelloKey) (wantA:List Ue) (wantB:List Ue) (r:Ub×Bool) (hF:r=(F64 a b keys wantA wantB)):(Imp (.l 23 eHelloSide r.1.Sides) (.l 23 eHelloSide (F64 a b keys wantA wantB).1.Sides))/\(Imp (.l 14 eHelloWord r.1.Radio) (.l 14 eHelloWord (F64 a b keys wantA wantB).1.Radio))/\((.bool r.2:Value)=.bool (F64 a b keys wantA wantB).2)/\True:=by cases hF; exact ⟨Imp.refl _,Imp.refl _,rfl,trivial⟩
def S64 (a:Int) (b:Int) (keys:List HelloKey) (wantA:List Ue) (wantB:List Ue):Spec:=⟨[.r (.c (.v (vI a))),.r (.c (.v (vI b))),.r (.c (.l 2 eHelloKey keys)),.r (.c (.l 4 eHelloEntry wantA)),.r (.c (.l 4 eHelloEntry wantB))],.tu [.ag [.ow (.l 23 eHelloSide (F64 a b keys wantA wantB).1.Sides),.ow (.l 14 eHelloWord (F64 a b keys wantA wantB).1.Radio)],.v (.bool (F64 a b keys wantA wantB).2)],keys.length<=1000000000/\wantA.length<=1000000000/\wantB.length<=1000000000⟩
abbrev q64_1 (a:Int) (b:Int) (keys:List HelloKey) (wantA:List Ue) (wantB:List Ue):=([(⟨true,(F70 a b keys 1 wantA)⟩:Uc),(⟨true,(F70 b a keys 1 wantB)⟩:Uc)]:List Uc)
abbrev q64_2 (a:Int) (b:Int) (keys:List HelloKey) (wantA:List Ue) (wantB:List Ue):=(⟨(q64_1 a b keys wantA wantB),([]:List HelloWord)⟩:Ub)
theorem ok64 (a:Int) (b:Int) (keys:List HelloKey) (wantA:List Ue) (wantB:List Ue):(S64 a b keys wantA wantB).ok Try.prog 64 :=
 fnG_ok mixed (fn:=Try.f64) (ct:=.seqk [(2,0),(3,0),(4,0)] .no (.seq (.reg [(4,kh70 a b keys 1 wantA),(10,kh70 b a keys 1 wantB),(12,.dat (.l 23 eHelloSide (q64_1 a b keys wantA wantB))),(13,.dat (.l 14 eHelloWord ([]:List HelloWord)))]) (.seq (.seq (.reg [(1,.call 65 (S65 (q64_2 a b keys wantA wantB)) (ok65 (q64_2 a b keys wantA wantB)) none)]) (.cond (.seq .no .no) .no)) (.seq .no .no)))) Try.func64 (fun (hp:keys.length<=1000000000/\wantA.length<=1000000000/\wantB.length<=1000000000)=>have hpre0:=hp.1; have hpre1:=hp.2.1; have hpre2:=hp.2.2; kn keys fun _=>kn wantA fun _=>kn wantB fun _=>kc70 a b keys 1 wantA uu0 uu0 (kc70 b a keys 1 wantB uu0 uu0 (ai (bokr 23 eHelloSide (q64_1 a b keys wantA wantB) fun _=>rfl) (ai (bokr 14 eHelloWord ([]:List HelloWord) fun _=>rfl) (ai trivial (ai (Imps.refl (eHelloWorld (q64_2 a b keys wantA wantB))) (ifb (!(F65 (q64_2 a b keys wantA wantB))) (fun h1=>(fun hF:((⟨[],[]⟩:Ub),false)=(F64 a b keys wantA wantB)=>ai ((Imp.nil 23 eHelloSide).trans (Imp.of_eq (Qa (fun r:Ub×Bool=>Dat.l 23 eHelloSide r.1.Sides) hF))) (ai ((Imp.nil 14 eHelloWord).trans (Imp.of_eq (Qa (fun r:Ub×Bool=>Dat.l 14 eHelloWord r.1.Radio) hF))) (ai (Qa (fun r:Ub×Bool=>(.bool r.2:Value)) hF) trivial))) (condT h1 rfl)) (fun h1=>have _:(q64_1 a b keys wantA wantB).length=2:=worldS_two (q64_2 a b keys wantA wantB) (notEF h1); have _:∀ k:Nat,EndFit ((q64_1 a b keys wantA wantB).getD k default).End:=worldS_fit (q64_2 a b keys wantA wantB) (notEF h1); have _:([]:List HelloWord).length<=12:=worldS_radio (q64_2 a b keys wantA wantB) (notEF h1); fi64 a b keys wantA wantB ((q64_2 a b keys wantA wantB),true) (condF h1 rfl))))))))) uu3
theorem step_ok (w:Ub) (e:HelloEvent) (h:F65 w=true):F65 (F56 w e)=true:=by
 unfold F56
 rw [h]
 exact copy_ok _ (do_ok _ e (copy_ok w h))
theorem calm_ok (w:Ub) (n:Int) (h:F65 w=true):F65 (F55 w n)=true:=by
 unfold F55
 rw [h,Rw,Qj]
 refine fin_inv (I:=fun s:List Uc×List HelloWord=>F65 ⟨s.1,s.2⟩=true) (J:=fun r:Ub=>F65 r=true) (K:=fun r:Ub=>F65 r=true) ?_ (fun _ h=>h) (fun s hs=>copy_ok _ hs)
 unfold F55_j0
 refine fin_inv (I:=fun s:Int×List Uc×List HelloWord=>F65 ⟨s.2.1,s.2.2⟩=true) (J:=fun r:Ub=>F65 r=true) (K:=Lp.all (fun s:List Uc×List HelloWord=>F65 ⟨s.1,s.2⟩=true) (fun r:Ub=>F65 r=true)) (runL_inv _ _ (fun s hs=>?_) _ _ (copy_ok w h)) (fun _ h=>h) (fun s hs=>hs)
 obtain ⟨i,a,b⟩:=s
 unfold F55_s0
 dsimp only
 cases (bif decide (i<n) then decide (i<100) else false) with
 | true=>exact round_ok _ hs
 | false=>exact hs
theorem new_ok {a b:Int} {keys:List HelloKey} {want:List Ue} (ha:0<=a/\a<=65535) (hb:0<=b/\b<=65535) (hn:a≠b) (hk:F10 keys=true) (hw:F8 want=true) :
  EOk (F70 a b keys 1 want)/\(F70 a b keys 1 want).Name=a/\(F70 a b keys 1 want).Peer=b:=by
 have z:(0:Int)<=0/\(0:Int)<=1000000:=by decide
 have hE:EOk ⟨a,b,keys,1,want,0,0,0,false,0,0,⟨0,⟨0,0,0,0⟩⟩,[],false,0,false,[],0⟩:=by
  refine ⟨ha,hb,hn,hk,⟨Int.le_refl 1,by show (1:Int)<=1000; decide⟩,hw,z,⟨Int.le_refl 0,by show (0:Int)<=999; decide⟩,z,Iff.rfl,⟨Int.le_refl 0,by show (0:Int)<=4; decide⟩,fun hx=>?_,fun hx=>?_,⟨Int.le_refl 0,Int.le_refl 0⟩,z,change0,fun hx=>?_,table_nil,by show F8 (F84 [] ⟨0,⟨0,0,0,0⟩⟩)=true; rw [apply_zero]; exact table_nil,(heard_iff _).2 ⟨Rk _,⟨Int.le_refl 0,by show (0:Int)<=6; decide⟩,ord_nil,fun _ r hr=>?_,rfl⟩⟩
  ·have:(0:Int)>0:=hx
   omega
  ·cases hx
  ·have:(0:Int)>0:=hx
   omega
  ·cases hr
 unfold F70
 rw [(endOk_iff _).2 hE]
 exact ⟨hE,rfl,rfl⟩
theorem open_ok (a b:Int) (keys:List HelloKey) (wantA wantB:List Ue) (ha:0<=a/\a<=65535) (hb:0<=b/\b<=65535) (hn:a≠b) (hk:F10 keys=true) (hA:F8 wantA=true) (hB:F8 wantB=true):F65 (F64 a b keys wantA wantB).1=true:=by
 obtain ⟨a1,a2,a3⟩:=new_ok ha hb hn hk hA
 obtain ⟨b1,b2,b3⟩:=new_ok hb ha (Ne.symm hn) hk hB
 have hW:F65 ⟨[⟨true,F70 a b keys 1 wantA⟩,⟨true,F70 b a keys 1 wantB⟩],[]⟩=true :=
  (worldOk_iff _).2 ⟨rfl,⟨a1,.inl rfl⟩,⟨b1,.inl rfl⟩,a2.trans b3.symm,b2.trans a3.symm,Rk _,fun x hx=>by cases hx⟩
 unfold F64
 rw [hW]; exact hW
theorem tmod_ix {a b:Int} (h0:0<=a) (h1:0<b):0<=a.tmod b/\a.tmod b<b:=by
 rw [Int.tmod_eq_emod_of_nonneg h0]
 exact ⟨Int.emod_nonneg _ uu0,Int.emod_lt_of_pos _ h1⟩
theorem wrap73 {k:Int} (h0:0<=k) (h1:k<=2000000000):0<=IntKind.i64.wrap (IntKind.i64.wrap (k*7)+3):=by
 rw [wrap_of (n:=k*7) uu0 uu0,wrap_of uu0 uu0]; omega
theorem tmod_nn {a n:Int} (h0:0<=a):0<=a.tmod n/\(1<=n->a.tmod n<n):=by
 refine ⟨?_,fun h=>(tmod_ix h0 uu0).2⟩
 rw [Int.tmod_eq_emod_of_nonneg h0]
 by_cases h:n=0
 ·subst h; simpa using h0
 ·exact Int.emod_nonneg _ h
theorem xor_in {a b:Int} (ha:0<=a) (ha2:a<4611686018427387904) (hb:0<=b) (hb2:b<4611686018427387904):0<=bitI .xor .i64 a b:=by
 obtain ⟨m,rfl⟩:=Int.eq_ofNat_of_zero_le ha
 obtain ⟨k,rfl⟩:=Int.eq_ofNat_of_zero_le hb
 have h1:m<2 ^ 62:=by omega
 have h2:k<2 ^ 62:=by omega
 have hx:m ^^^ k<2 ^ 62:=Nat.xor_lt_two_pow h1 h2
 unfold bitI
 have e:(BitVec.ofInt IntKind.i64.bits (m:Int) ^^^ BitVec.ofInt IntKind.i64.bits (k:Int)).toNat=m ^^^ k:=by
  rw [BitVec.toNat_xor,BitVec.toNat_ofInt,BitVec.toNat_ofInt]
  have hb:(2 ^ IntKind.i64.bits:Nat)=18446744073709551616:=by decide
  have e1:((m:Int)%((2 ^ IntKind.i64.bits:Nat):Int)).toNat=m:=by rw [hb]; omega
  have e2:((k:Int)%((2 ^ IntKind.i64.bits:Nat):Int)).toNat=k:=by rw [hb]; omega
  rw [e1,e2]
 simp only [e]
 rw [wrap_of uu0 uu0]
 omega
structure l41Rd where
 b:List Int
 p:Int
 deriving DecidableEq,Inhabited
def F17 (Ua:SV) (code:List Int):l41Rd×SV :=
 bif (decide ((code.length:Int)>2000)) then ((⟨(code.take (Int.toNat 2000)),0⟩:l41Rd),(cutSV 1 (Int.toNat 0) (code.take (Int.toNat 2000)).length Ua)) else ((⟨code,0⟩:l41Rd),Ua)
def S17 (Ua:SV) (code:List Int):Spec:=⟨[.vl (sv Ua) (.l 1 eByte code)],.pt 70 [.v (sv (F17 Ua code).2),.v (vI (F17 Ua code).1.p)],True⟩
theorem ok17 (Ua:SV) (code:List Int):(S17 Ua code).ok Try.prog 17 :=
 fnG_ok mixed (fn:=Try.f17) (ct:=.seqk [(0,0)] .no (.seq (.seq .no (.cond (.reg [(1,.sv)]) .no)) (.seq .no .no))) Try.func17 (fun (_:True)=>kn code fun _=>ifd ((code.length:Int)>2000) (fun h1 _=>ai (uu1:0<=(0:Int)/\(0:Int)<=(2000:Int)/\(2000:Int)<=(code.length:Int)) ((fun hF:((⟨(code.take (Int.toNat 2000)),0⟩:l41Rd),(cutSV 1 (Int.toNat 0) (code.take (Int.toNat 2000)).length Ua))=(F17 Ua code)=>ai (ai (Imp.of_eq (Qa (fun r:l41Rd×SV=>Dat.v (sv r.2)) hF)) (ai (Imp.of_eq (Qa (fun r:l41Rd×SV=>Dat.v (vI r.1.p)) hF)) trivial)) trivial) (condT h1 rfl))) (fun h1 _=>(fun hF:((⟨code,0⟩:l41Rd),Ua)=(F17 Ua code)=>ai (ai (Imp.of_eq (Qa (fun r:l41Rd×SV=>Dat.v (sv r.2)) hF)) (ai (Imp.of_eq (Qa (fun r:l41Rd×SV=>Dat.v (vI r.1.p)) hF)) trivial)) trivial) (condF h1 rfl))) uu3
def F19 (r1:l41Rd) (n:Int):Int×Int :=
 bif (bif decide (n<1) then true else ((r1.b.length:Int)==0)) then (0,(r1.p+1)) else (bif (decide (((r1.p+1)-1)<(r1.b.length:Int))) then (((IntKind.i64.wrap ((r1.b.getD ((r1.p+1)-1).toNat default)%256)).tmod n),(r1.p+1)) else (((bitI .xor .i64 (IntKind.i64.wrap ((IntKind.i64.wrap ((IntKind.i64.wrap ((IntKind.i64.wrap ((IntKind.i64.wrap ((r1.b.getD (((r1.p+1)-1).tmod (r1.b.length:Int)).toNat default)%256))*131))+(IntKind.i64.wrap ((IntKind.i64.wrap ((r1.b.getD ((IntKind.i64.wrap ((IntKind.i64.wrap (((r1.p+1)-1)*7))+3)).tmod (r1.b.length:Int)).toNat default)%256))*1117))))+(IntKind.i64.wrap (((r1.p+1)-1)*29))))+(IntKind.i64.wrap ((IntKind.i64.wrap (((r1.p+1)-1).tdiv (r1.b.length:Int)))*53)))) (IntKind.i64.wrap ((IntKind.i64.wrap ((IntKind.i64.wrap ((IntKind.i64.wrap ((IntKind.i64.wrap ((IntKind.i64.wrap ((r1.b.getD (((r1.p+1)-1).tmod (r1.b.length:Int)).toNat default)%256))*131))+(IntKind.i64.wrap ((IntKind.i64.wrap ((r1.b.getD ((IntKind.i64.wrap ((IntKind.i64.wrap (((r1.p+1)-1)*7))+3)).tmod (r1.b.length:Int)).toNat default)%256))*1117))))+(IntKind.i64.wrap (((r1.p+1)-1)*29))))+(IntKind.i64.wrap ((IntKind.i64.wrap (((r1.p+1)-1).tdiv (r1.b.length:Int)))*53)))).tdiv 64))).tmod n),(r1.p+1)))
def S19 (r1X:SV) (gr1:Nat) (r1:l41Rd) (n:Int):Spec:=⟨[.ptg gr1 70 (sv r1X) (.l 1 eByte r1.b) [.v (vI r1.p)] [.v (vI (r1.p+1))],.r (.c (.v (vI n)))],.v (vI (F19 r1 n).1),0<=r1.p/\r1.p<=1000000000/\r1.b.length<=2000⟩
theorem ok19 (r1X:SV) (gr1:Nat) (r1:l41Rd) (n:Int):(S19 r1X gr1 r1 n).ok Try.prog 19 :=
 fnG_ok mixed (fn:=Try.f19) (ct:=.seqk [(0,0)] .no (.seq (.reg [(5,.bnd)]) (.seq (.seq .no (.cond (.seq .no .no) .no)) (.seq (.reg [(4,.bnd)]) (.seq (.seq .no (.cond (.seq .no .no) .no)) (.seq .no (.seq .no (.seq .no .no)))))))) Try.func19 (fun (hp:0<=r1.p/\r1.p<=1000000000/\r1.b.length<=2000)=>have hpre0:=hp.1; have hpre1:=hp.2.1; have hpre2:=hp.2.2; kn r1.b fun _=>ai (iok (r1.p+1) uu0) (ifb (bif decide (n<1) then true else ((r1.b.length:Int)==0)) (fun h1=>(fun hF:(0,(r1.p+1))=(F19 r1 n)=>ai (Qa (fun r:Int×Int=>(.int .i64 r.1:Value)) hF) (ai (ai (Imp.refl (Dat.v (sv r1X))) (ai (Imp.of_eq (Qa (fun z:Int=>Dat.v (vI z)) (uu0:(r1.p+1)=r1.p+1))) trivial)) trivial)) (condT h1 rfl)) (fun h1=>have _:=Re (orF1 h1); have _:=beqF (orF2 h1); ai (iok ((r1.p+1)-1) uu0) (ifd (((r1.p+1)-1)<(r1.b.length:Int)) (fun h2 _=>ai (uu32:0<=((r1.p+1)-1)/\((r1.p+1)-1)<(r1.b.length:Int)) (ai (uu0:¬ n=0) ((fun hF:(((IntKind.i64.wrap ((r1.b.getD ((r1.p+1)-1).toNat default)%256)).tmod n),(r1.p+1))=(F19 r1 n)=>ai (Qa (fun r:Int×Int=>(.int .i64 r.1:Value)) hF) (ai (ai (Imp.refl (Dat.v (sv r1X))) (ai (Imp.of_eq (Qa (fun z:Int=>Dat.v (vI z)) (uu0:(r1.p+1)=r1.p+1))) trivial)) trivial)) (condF h1 (condT h2 rfl))))) (fun h2 _=>ai (uu0:¬ (r1.b.length:Int)=0) (ai (uu32:0<=(((r1.p+1)-1).tmod (r1.b.length:Int))/\(((r1.p+1)-1).tmod (r1.b.length:Int))<(r1.b.length:Int)) (ai (uu0:¬ (r1.b.length:Int)=0) (ai (uu32:0<=((IntKind.i64.wrap ((IntKind.i64.wrap (((r1.p+1)-1)*7))+3)).tmod (r1.b.length:Int))/\((IntKind.i64.wrap ((IntKind.i64.wrap (((r1.p+1)-1)*7))+3)).tmod (r1.b.length:Int))<(r1.b.length:Int)) (ai (uu0:¬ (r1.b.length:Int)=0) (ai (uu0:¬ (64:Int)=0) (ai (uu0:¬ n=0) ((fun hF:(((bitI .xor .i64 (IntKind.i64.wrap ((IntKind.i64.wrap ((IntKind.i64.wrap ((IntKind.i64.wrap ((IntKind.i64.wrap ((r1.b.getD (((r1.p+1)-1).tmod (r1.b.length:Int)).toNat default)%256))*131))+(IntKind.i64.wrap ((IntKind.i64.wrap ((r1.b.getD ((IntKind.i64.wrap ((IntKind.i64.wrap (((r1.p+1)-1)*7))+3)).tmod (r1.b.length:Int)).toNat default)%256))*1117))))+(IntKind.i64.wrap (((r1.p+1)-1)*29))))+(IntKind.i64.wrap ((IntKind.i64.wrap (((r1.p+1)-1).tdiv (r1.b.length:Int)))*53)))) (IntKind.i64.wrap ((IntKind.i64.wrap ((IntKind.i64.wrap ((IntKind.i64.wrap ((IntKind.i64.wrap ((IntKind.i64.wrap ((r1.b.getD (((r1.p+1)-1).tmod (r1.b.length:Int)).toNat default)%256))*131))+(IntKind.i64.wrap ((IntKind.i64.wrap ((r1.b.getD ((IntKind.i64.wrap ((IntKind.i64.wrap (((r1.p+1)-1)*7))+3)).tmod (r1.b.length:Int)).toNat default)%256))*1117))))+(IntKind.i64.wrap (((r1.p+1)-1)*29))))+(IntKind.i64.wrap ((IntKind.i64.wrap (((r1.p+1)-1).tdiv (r1.b.length:Int)))*53)))).tdiv 64))).tmod n),(r1.p+1))=(F19 r1 n)=>ai (Qa (fun r:Int×Int=>(.int .i64 r.1:Value)) hF) (ai (ai (Imp.refl (Dat.v (sv r1X))) (ai (Imp.of_eq (Qa (fun z:Int=>Dat.v (vI z)) (uu0:(r1.p+1)=r1.p+1))) trivial)) trivial)) (condF h1 (condF h2 rfl)))))))))))))) uu3
theorem pick_x {b1 b2 k q:Int} (h1:0<=b1/\b1<256) (h2:0<=b2/\b2<256) (hk:0<=k/\k<=2000000000) (hq:0<=q/\q<=2000000000) :
  IntKind.i64.wrap (IntKind.i64.wrap (IntKind.i64.wrap (IntKind.i64.wrap (IntKind.i64.wrap b1*131)+IntKind.i64.wrap (IntKind.i64.wrap b2*1117))+IntKind.i64.wrap (k*29))+IntKind.i64.wrap (IntKind.i64.wrap q*53))=b1*131+b2*1117+k*29+q*53:=by
 rw [wrap_of (n:=b1) uu0 uu0,wrap_of (n:=b2) uu0 uu0,wrap_of (n:=q) uu0 uu0,wrap_of (n:=b1*131) uu0 uu0,wrap_of (n:=b2*1117) uu0 uu0,wrap_of (n:=k*29) uu0 uu0,wrap_of (n:=q*53) uu0 uu0,
  wrap_of (n:=b1*131+b2*1117) uu0 uu0,wrap_of (n:=b1*131+b2*1117+k*29) uu0 uu0,wrap_of uu0 uu0]
theorem pick_y {a n:Int} (h0:0<=a) (h1:a<4611686018427387904):0<=(bitI .xor .i64 a (IntKind.i64.wrap (a.tdiv 64))).tmod n/\(1<=n->(bitI .xor .i64 a (IntKind.i64.wrap (a.tdiv 64))).tmod n<n):=by
 have e:a.tdiv 64=a / 64:=Int.tdiv_eq_ediv_of_nonneg h0
 rw [e,wrap_of uu0 uu0]
 exact tmod_nn (xor_in h0 h1 uu0 uu0)
theorem tdiv_in {k n:Int} (h0:0<=k) (h1:0<=n):0<=k.tdiv n/\k.tdiv n<=k:=by
 rw [Int.tdiv_eq_ediv_of_nonneg h0]
 exact ⟨Int.ediv_nonneg h0 h1,Int.ediv_le_self _ h0⟩
theorem cond_1 (c:Bool) (x:Int):x<=(bif c then x+1 else x)/\(bif c then x+1 else x)<=x+1:=by
 cases c
 ·exact ⟨Int.le_refl _,by simp only [Qj]; omega⟩
 ·exact ⟨by simp only [Qd]; omega,Int.le_refl _⟩
theorem pick_p (r1:l41Rd) (n:Int):(F19 r1 n).2=r1.p+1:=by
 unfold F19
 cases (bif decide (n<1) then true else ((r1.b.length:Int)==0))
 ·simp only [Qj]
  cases decide (((r1.p+1)-1)<(r1.b.length:Int)) <;> rfl
 ·rfl
theorem pick_in (r1:l41Rd) (n:Int) (h0:0<=r1.p) (h1:r1.p<=1000000000):0<=(F19 r1 n).1/\(1<=n->(F19 r1 n).1<n)/\(F19 r1 n).2=r1.p+1:=by
 unfold F19
 cases h2:(bif decide (n<1) then true else ((r1.b.length:Int)==0)) with
 | true=>simp only [Qd]; exact ⟨by omega,fun h=>by omega,trivial⟩
 | false =>
  simp only [Qj]
  cases h3:decide (((r1.p+1)-1)<(r1.b.length:Int)) with
  | true =>
   simp only [Qd]
   have h4:0<=IntKind.i64.wrap (r1.b.getD ((r1.p+1)-1).toNat default%256):=by rw [wrap_of uu0 uu0]; omega
   have:=tmod_nn (n:=n) h4
   exact ⟨this.1,this.2,trivial⟩
  | false =>
   simp only [Qj]
   have hq:=tdiv_in (k:=(r1.p+1)-1) (n:=(r1.b.length:Int)) uu0 uu0
   rw [pick_x uu0 uu0 uu0 uu0]
   have:=pick_y (n:=n) (a:=r1.b.getD (((r1.p+1)-1).tmod (r1.b.length:Int)).toNat default%256*131+r1.b.getD ((IntKind.i64.wrap ((IntKind.i64.wrap (((r1.p+1)-1)*7))+3)).tmod (r1.b.length:Int)).toNat default%256*1117+(r1.p+1-1)*29+(r1.p+1-1).tdiv (r1.b.length:Int)*53) uu0 uu0
   exact ⟨this.1,this.2,trivial⟩
theorem open_b (Ua:SV) (code:List Int):(F17 Ua code).1.b.length<=2000/\(F17 Ua code).1.p=0:=by
 unfold F17
 by_cases h:(code.length:Int)>2000
 ·rw [Qv h,Qd]; exact ⟨by simp only [Ri]; omega,rfl⟩
 ·rw [Qw h,Qj]; exact ⟨by simp only; omega,rfl⟩
theorem gd17 (Ua:SV) (code:List Int):GD (sv Ua) (.l 1 eByte code) (sv (F17 Ua code).2) (.l 1 eByte (F17 Ua code).1.b):=by
 unfold F17
 intro S w h
 by_cases hl:(code.length:Int)>2000
 ·rw [Qv hl,Qd]
  obtain ⟨a,c,e1,e2,e3,e4⟩:=h
  simp only [sv,Value.slice.injEq] at e1
  obtain ⟨rfl,-,rfl⟩:=e1
  show RdV S w (.l 1 eByte (code.take 2000)) (.slice (if Ua.c=0 then Ua.a else Ua.a.map (·.add (0*1))) (code.take 2000).length (Ua.c-0))
  have hz:(if Ua.c=0 then Ua.a else Ua.a.map (·.add (0*1)))=Ua.a:=by
   by_cases hc:Ua.c=0
   ·rw [if_pos hc]
   ·rw [if_neg hc]
    cases ha:Ua.a with
    | none=>rfl
    | some a =>
     obtain ⟨x,hx⟩:∃ x,code[0]?=some x:=⟨_,Qn uu0⟩
     obtain ⟨f1,_⟩:=e4 0 x hx
     rw [ha] at f1
     rw [f1]
     simp [Addr.add_lit,ab,ao]
  rw [hz,Nat.sub_zero]
  refine ⟨_,_,rfl,by simp only [Ri]; omega,by simp only [Ri]; omega,fun i y hy=>?_⟩
  rw [Rb] at hy
  split at hy
  ·exact e4 i y hy
  ·cases hy
 ·rw [Qw hl,Qj]; exact h
theorem pick_v (r1:l41Rd) (n:Int) (h0:0<=r1.p) (h1:r1.p<=1000000000):0<=(F19 r1 n).1/\(1<=n->(F19 r1 n).1<n):=⟨(pick_in r1 n h0 h1).1,(pick_in r1 n h0 h1).2.1⟩
theorem lenL_in (k:Nat):0<=([0,1,8,8,15,16]:List Int).getD k default/\([0,1,8,8,15,16]:List Int).getD k default<=16:=by
 match k with
 | 0 | 1 | 2 | 3 | 4 | 5=>decide
 | k+6=>exact ⟨Int.le_refl 0,by show (0:Int)<=16; decide⟩
end Go.Proofs.Ytpeklolpimhioaa
