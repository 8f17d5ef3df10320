/- A part of the proof of FnConfParse. Texts put together: MX, LY, DEC, VC0, PS1, VC1, PS2, VC2, PS3, PS4, VF0, PF0, VF1, VF2, PN1, PN2, PN3, PN4, PA1, PA2, PA3, PA4, VF3, PA5, PA6, PA7, PA8, PJ1. -/
import Derived.Shelf.Strings.Cut
import Derived.Shelf.Strings.Split
import Derived.Shelf.Strings.OnBuilder
import Derived.Shelf.Slices.In.SortAlone
import Derived.Shelf.Slices.In.SortNone
import Derived.Sort.EveryDepth
import Derived.Test.YtabmhncnckahfaaGreatDoorRows
import Derived.Shelf.LaysM
import Derived.Shelf.Strconv.AtoiAll
import Derived.Shelf.Strconv.Itoa3
import Derived.WalkKit
import Derived.BigCall
import Derived.BigGuard
import Derived.Lib.Walk
import Derived.Lib.Hide
import Derived.Lib.IndexBytes
import Derived.Lib.SplitLaws
import Derived.Lib.CutLaws
import Derived.Lib.AtoiAll
import Derived.Lib.ItoaNum
import Derived.Test.YtabmhncnckahfaaGreatDoorZC64B
namespace Go.Proofs.YtabmhncnckahfaaGreatDoor
open Go.RowKit Go.Shelf
set_option linter.unusedVariables false
set_option linter.unusedSimpArgs false
section
variable {P:Program} {ρ:Go.Shelf.Ren}
theorem chg_drewN (SS:Nat->Prop) (w:World) (n:Nat):Chg SS w (w.drewN n):=⟨rfl,rfl,rfl,Qn _,fun _ _ _=>rfl,Nat.le_add_right _ _⟩
theorem chg_alloc (SS:Nat->Prop) (w:World) (o:Obj):Chg SS w (w.alloc o):=Chg.of_below (bpush w o)
def cut3 (s sep:Za):Za×Za×Bool:=(⟨(Lib.cut s.data.toList sep.data.toList).1.toArray⟩,⟨(Lib.cut s.data.toList sep.data.toList).2.1.toArray⟩,(Lib.cut s.data.toList sep.data.toList).2.2)
theorem cut_ok (L:Lays.n145 P ρ) (hg:ρ.g 1∈GBi) (s sep:Za):Spec.ok P (ρ.f 145) ⟨[.r (.c (.v (.string s))),.r (.c (.v (.string sep)))],.tu [.v (.string (cut3 s sep).1),.v (.string (cut3 s sep).2.1),.v (.bool (cut3 s sep).2.2)],s.size<=4294967280⟩:=by
 intro hs S w vs fp hS hG hA
 obtain ⟨u,us,f,g,rfl,⟨⟨rfl,_⟩,rfl⟩,⟨u2,us2,f2,g2,rfl,⟨⟨rfl,_⟩,rfl⟩,⟨rfl,rfl⟩,rfl,_⟩,rfl,_⟩:=hA
 obtain ⟨m,hm⟩:=hG.1.2.1 _ hg
 have hs:s.size<=4294967280:=hs
 refine (Any.strings_Cut L s sep m w uu0 hm).mono fun e w' ⟨h1,n,h2⟩=>?_
 subst h2
 exact ⟨_,[],[],h1,⟨[_,_,_],rfl,_,_,[],[],rfl,⟨rfl,rfl,rfl⟩,⟨_,_,[],[],rfl,⟨rfl,rfl,rfl⟩,⟨_,_,[],[],rfl,⟨rfl,rfl,rfl⟩,⟨rfl,rfl⟩,rfl⟩,rfl⟩,rfl⟩,
  ⟨_,_,[],[],rfl,rfl,⟨_,_,[],[],rfl,rfl,rfl,rfl⟩,rfl⟩,Q6,fun b hb=>by simp at hb,chg_drewN _ w n⟩
def splitS (s sep:Za):List Za:=Lib.splitB sep 0 (Lib.countB s sep) s
theorem ow_strs (w:World):∀ ys:List Za,OwVs w (ys.map eStr).flatten (ys.map Value.string) []
 | []=>⟨rfl,rfl⟩
 | y :: ys=>⟨.string y,ys.map Value.string,[],[],rfl,⟨rfl,rfl,rfl⟩,ow_strs w ys,rfl,Q6⟩
theorem splitS_len (s sep:Za) (h1:1<=sep.size):(splitS s sep).length=Lib.countB s sep+1:=Lib.splitB_all sep h1 0 _ s rfl
theorem split_ok (L:Lays.n146 P ρ) (hi9:(P.info? (ρ.t 9)).map (fun i=>(i.zero,i.size,i.bytes))=some (some (.string ByteArray.empty),1,16)) (hg:ρ.g 1∈GBi) (s sep:Za) :
  Spec.ok P (ρ.f 146) ⟨[.r (.c (.v (.string s))),.r (.c (.v (.string sep)))],.ow (.l 1 eStr (splitS s sep)),s.size<=4294967280/\1<=sep.size⟩:=by
 intro ⟨hs,h1⟩ S w vs fp hS hG hA
 obtain ⟨u,us,f,g,rfl,⟨⟨rfl,_⟩,rfl⟩,⟨u2,us2,f2,g2,rfl,⟨⟨rfl,_⟩,rfl⟩,⟨rfl,rfl⟩,rfl,_⟩,rfl,_⟩:=hA
 obtain ⟨m,hm⟩:=hG.1.2.1 _ hg
 have hle:=Lib.countB_le sep h1 s.size s (Qn _)
 have hlen:=splitS_len s sep h1
 refine (Any.strings_Split L hi9 s sep m w uu0 hm h1).mono fun e w' ⟨h2,h3⟩=>?_
 subst h3
 refine ⟨_,[w.heap.size],[],h2,?_,⟨_,_,[],[],rfl,rfl,⟨_,_,[],[],rfl,rfl,rfl,rfl⟩,rfl⟩,by simp,fun b hb=>?_,(chg_alloc _ w _).toD _⟩
 ·rw [<- hlen]
  refine own_of_split (ys:=splitS s sep) (vs:=(splitS s sep).map Value.string) (rest:=[]) (c:=(splitS s sep).length) (T:=ρ.t 9) (ow_strs _ _) (fun y _=>rfl) (bpush w _) (by simp) ?_ (by simp) (Qn _) uu0
  simp only [Su]
  exact heap_alloc_new w _
 ·have hb:b=w.heap.size:=by simpa using hb
  subst hb
  exact ⟨by simp,.inr (Qn _)⟩
theorem splitS_pos (s sep:Za) (h1:1<=sep.size):1<=(splitS s sep).length:=(splitS_len s sep h1).symm ▸ Nat.le_add_left 1 _
theorem splitS_le (s sep:Za) (h1:1<=sep.size):(splitS s sep).length<=s.size+1:=by
 rw [splitS_len s sep h1]
 have:=Lib.countB_le sep h1 s.size s (Qn _)
 omega
theorem cut3_le1 (s sep:Za):((cut3 s sep).1.size:Int)<=(s.size:Int):=by
 have:(cut3 s sep).1.size<=s.size:=by
  show (Lib.cut s.data.toList sep.data.toList).1.toArray.size<=s.data.size
  unfold Lib.cut
  split
  ·simp only [G9,Rm,Tl]
   have:s.data.toList.length=s.data.size:=by simp
   omega
  ·simp
 omega
theorem cut3_le2 (s sep:Za):((cut3 s sep).2.1.size:Int)<=(s.size:Int):=by
 have:(cut3 s sep).2.1.size<=s.size:=by
  show (Lib.cut s.data.toList sep.data.toList).2.1.toArray.size<=s.data.size
  unfold Lib.cut
  split
  ·simp only [G9,Rm,Tl]
   have:s.data.toList.length=s.data.size:=by simp
   omega
  ·simp
 omega
def joinS (xs:List Za) (sep:Za):Za:=⟨(Lib.join (xs.map (·.data.toList)) sep.data.toList).toArray⟩
theorem join_ok (L:Lays.n156 P ρ) (X:Builder.Extra P ρ) (xs:List Za) (sep:Za) :
  Spec.ok P (ρ.f 156) ⟨[.r (.c (.l 1 eStr xs)),.r (.c (.v (.string sep)))],.v (.string (joinS xs sep)),xs.length<=140737488355328/\(joinS xs sep).size<=140737488355328⟩ false:=by
 intro ⟨hl,hj⟩ S w vs fp hS hG hA
 obtain ⟨u,us,f,g,rfl,⟨⟨a,c,rfl,hc,h63,hx⟩,rfl⟩,⟨u2,us2,f2,g2,rfl,⟨⟨rfl,_⟩,rfl⟩,⟨rfl,rfl⟩,rfl,_⟩,rfl,_⟩:=hA
 have fin:∀ (e:Ending) (w':World),e=.returned (.string (joinS xs sep))->Below w.heap.size w w'->∃ rv fr fb,e=.returned rv/\RTOK w' (.v (.string (joinS xs sep))) rv fr/\BehsOK w' [.r (.c (.l 1 eStr xs)),.r (.c (.v (.string sep)))] [.slice a xs.length c,.string sep] fb/\(fr++fb).Nodup/\(∀ b∈fr++fb,b<w'.heap.size/\(b∈([]++([]++[]):List Nat)\/w.heap.size<=b))/\Chg (·∈([]++([]++[]):List Nat)) (atD false w) w' :=
  fun e w' h1 h2=>⟨_,[],[],h1,⟨rfl,rfl,rfl⟩,⟨_,_,[],[],rfl,rfl,⟨_,_,[],[],rfl,rfl,rfl,rfl⟩,rfl⟩,Q6,fun b hb=>by simp at hb,⟨h2.os,h2.tape,h2.output,h2.size,fun k hk _=>h2.block k hk,Re _⟩⟩
 cases xs with
 | nil =>
  refine (Any.strings_Join_none L X a c sep w).mono fun e w' ⟨h1,h2⟩=>fin e w' ?_ (h2 ▸ Below.refl _ _)
  rw [h1]; rfl
 | cons x xs =>
  obtain ⟨ha,hSb,_⟩:=hx 0 x rfl
  rw [ha]
  refine (Any.strings_Join L X (ab a) (ao a) c (x :: xs) sep w (fun j y hy=>?_) (hS _ hSb).1 hl hc (by simpa [joinS,ByteArray.size] using hj)).mono fun e w' ⟨h1,h2⟩=>?_
  ·obtain ⟨_,_,cs,h1,h2,h3⟩:=hx j y hy
   obtain ⟨u,us,rfl,⟨rfl,_⟩,_⟩:=h3
   have:=h2 0 _ rfl
   simpa using this
  ·have:=fin e w' h1 h2
   rw [ha] at this
   exact this
def sortS (xs:List Za):List Za:=((xs.map (·.data.toList)).mergeSort fun x y=>decide (x<=y)).map fun l=>⟨l.toArray⟩
theorem sortS_len (xs:List Za):(sortS xs).length=xs.length:=by simp [sortS,List.length_mergeSort]
open Go.Sort in
theorem sortS_ok (L:Lays.n190 P ρ) (xs:List Za) :
  Spec.ok P (ρ.f 190) ⟨[.ow (.l 1 eStr xs) (some (.l 1 eStr (sortS xs)))],.tu [],xs.length<=4000000000000000000⟩:=by
 intro hl S w vs fp hS hG hA
 have hl:xs.length<=4000000000000000000:=hl
 obtain ⟨u,us,f,g,rfl,hO,⟨rfl,rfl⟩,rfl,hnd⟩:=hA
 simp only [Su] at hnd hS ⊢
 obtain ⟨a,c,rfl,hc,h63,hO⟩:=hO
 by_cases hx:xs=[]
 ·subst hx
  refine (calls_of_every_depth fun D=>AnyS.slices_Sort_string_none_in L D a c w).mono fun e' w' ⟨h1,h2⟩=>?_
  subst h2
  have hs:sortS []=[]:=by simp [sortS]
  refine ⟨_,[],f,h1,⟨[],rfl,rfl,rfl⟩,⟨_,_,f,[],rfl,?_,rfl,by simp⟩,by simpa using hnd,fun b hb=>?_,(Chg.of_below (Bel.refl _ _)).toD _⟩
  ·show OwV w' (.l 1 eStr (sortS [])) _ f
   rw [hs]; exact ⟨a,c,rfl,hc,h63,hO⟩
  ·have hb:b∈f:=by simpa using hb
   exact ⟨OwV.lt (.l 1 eStr ([]:List Za)) _ f ⟨a,c,rfl,hc,h63,hO⟩ b hb,.inl hb⟩
 rcases hO with ⟨_,rfl,_⟩ | ⟨b,o,T,cells,fps,rfl,hbox,hlen,hfl,hel,rfl,hnd'⟩
 ·exact absurd rfl hx
 let zs:List (List UInt8):=xs.map (·.data.toList)
 have hzl:zs.length=xs.length:=by simp [zs]
 let ss:List (List UInt8):=zs.mergeSort fun x y=>decide (x<=y)
 have hsl:ss.length=xs.length:=by simp [ss,List.length_mergeSort,hzl]
 have hcell:∀ i (hi:i<xs.length),cells[o+i]?=some (.string xs[i])/\fps[i]'uu0=[]:=fun i hi=>by
  obtain ⟨h1,h2⟩:=hel i xs[i] (fps[i]'uu0) (Qj hi) (Qj _)
  obtain ⟨v,vs',f1,f2,h3,⟨rfl,_,rfl⟩,⟨rfl,rfl⟩,h4,_⟩:=h2
  refine ⟨?_,by rw [h4]; rfl⟩
  have:=Qh (fun l:List Value=>l[0]?) h3
  simpa [Rb,Rw] using this
 have hH:Go.Sort.Holds encStr w b o zs.toArray:=by
  intro j hj
  have hj':j<xs.length:=by simpa [zs] using hj
  have hb':w.heap[b]?=some (.cells cells.toArray T (0,0)):=hbox
  refine ⟨?_,by simp [World.frozen?,hb']⟩
  rw [getElem!_pos zs.toArray j hj]
  simp only [World.cell?,hb']
  simp only [Option.isSome_none,Tx,Hi,List.getElem?_toArray]
  rw [(hcell j hj').1]
  simp [zs,encStr]
 have hcall:=calls_of_every_depth fun D=>AnyS.slices_Sort_string_alone L D b o c zs w hH hbox.lt uu0
 rw [hzl] at hcall
 refine hcall.mono fun e' w' ⟨h1,n,os,hw'⟩=>?_
 have hsz:(putRow encStr (Sort.ahead w n) b o ss.toArray).heap.size=w.heap.size:=by simp [putRow,mapBlock,Sort.ahead]
 have s1:∀ b',b'<w.heap.size->b'≠b->w'.heap[b']?=w.heap[b']?:=fun b' hb' hne=>by
  rw [hw']
  show ((putRow encStr (Sort.ahead w n) b o ss.toArray).heap++os)[b']?=_
  rw [Tq (by rw [hsz]; exact hb')]
  simp only [putRow,mapBlock,Sort.ahead,G8]
  rw [if_neg (Ne.symm hne)]
 have s2:w.heap.size<=w'.heap.size:=by
  rw [hw']
  show _<=((putRow encStr (Sort.ahead w n) b o ss.toArray).heap++os).size
  rw [Array.size_append,hsz]; omega
 let cells':List Value:=(putCells encStr o ss.toArray cells.toArray).toList
 have hcl:cells'.length=cells.length:=by simp [cells',putCells]
 have hbox':Box w' b T cells':=by
  show w'.heap[b]?=_
  rw [hw']
  show ((putRow encStr (Sort.ahead w n) b o ss.toArray).heap++os)[b]?=_
  have hb':w.heap[b]?=some (.cells cells.toArray T (0,0)):=hbox
  rw [Tq (by rw [hsz]; exact hbox.lt)]
  simp only [putRow,mapBlock,Sort.ahead,G8,To,hb',G5,onCells]
  simp [cells']
 have hc':∀ i (hi:i<xs.length),cells'[o+i]?=some (.string ((sortS xs)[i]'(by rw [sortS_len]; exact hi))):=fun i hi=>by
  have hin:o+i<cells.length:=by omega
  simp only [cells',putCells,Th,Array.getElem?_mapIdx]
  rw [Sh (by simp; omega)]
  simp only [G5]
  rw [if_pos ⟨by omega,by simp only [G9]; omega⟩]
  have e1:o+i-o=i:=by omega
  rw [e1,getElem!_pos ss.toArray i (by simp only [G9]; omega)]
  simp [encStr,sortS,ss,zs]
 refine ⟨_,[],b :: fps.flatten,h1,⟨[],rfl,rfl,rfl⟩,⟨_,_,b :: fps.flatten,[],rfl,?_,rfl,by simp⟩,by simpa using hnd',fun b' hb'=>?_,Chg.toD _ ?_⟩
 ·have hflat:fps.flatten=[]:=by
   rw [List.flatten_eq_nil_iff]
   intro f hf
   obtain ⟨i,hi,rfl⟩:=List.getElem_of_mem hf
   exact (hcell i uu0).2
  show OwV w' (.l 1 eStr (sortS xs)) _ _
  refine ⟨_,c,by rw [sortS_len],by rw [sortS_len]; exact hc,by rw [sortS_len]; exact h63,.inr ⟨b,o,T,cells',List.replicate xs.length [],rfl,hbox',by rw [hcl,hlen],by simp [sortS_len],fun i x f hx hf=>?_,by rw [hflat]; simp,hnd'⟩⟩
  have hi:i<xs.length:=by have:=(Qp.1 hx).1; rwa [sortS_len] at this
  have hf':f=[]:=by
   rw [List.getElem?_replicate,if_pos hi] at hf
   exact (So hf).symm
  have hxe:(sortS xs)[i]'(by rw [sortS_len]; exact hi)=x:=(Qp.1 hx).2
  have htk:(cells'.drop (o+i*1)).take 1=[.string x]:=by
   have h2:=hc' i hi
   rw [hxe] at h2
   refine Gr fun j=>?_
   rw [Rb,Nat.mul_one]
   cases j with
   | zero=>simp [Rw,h2]
   | succ j=>simp
  rw [htk,hf']
  exact ⟨rfl,_,_,[],[],rfl,⟨rfl,rfl,rfl⟩,⟨rfl,rfl⟩,rfl,Q6⟩
 ·have hb2:b'∈b :: fps.flatten:=by simpa using hb'
  refine ⟨Rv ?_ s2,.inl hb2⟩
  rcases Qt.1 hb2 with rfl | h
  ·exact hbox.lt
  ·exact OwV.lt (.l 1 eStr xs) _ _ ⟨_,c,rfl,hc,h63,.inr ⟨b,o,T,cells,fps,rfl,hbox,hlen,hfl,hel,rfl,hnd'⟩⟩ b' (Qg _ h)
 ·refine ⟨by rw [hw']; rfl,by rw [hw']; rfl,by rw [hw']; rfl,s2,fun k' hk' hn=>s1 k' hk' fun e=>hn (by rw [e]; exact Qi),?_⟩
  rw [hw']
  show w.drawn<=w.drawn+n
  omega
end
end Go.Proofs.YtabmhncnckahfaaGreatDoor
namespace Go.Proofs.YtabmhncnckahfaaGreatDoor
open Go.Shelf Go.RowKit
def layJoin_ren:Go.Shelf.Ren:=⟨fun | 156=>35 | 165=>89 | 166=>90 | 169=>91 | 240=>141 | 241=>142 | 276=>168 | 277=>169 | n=>n,fun | 31=>26 | 9=>9 | 3=>3 | 4=>4 | 0=>0 | 20=>20 | 72=>91 | 76=>95 | 70=>89 | 37=>22 | 75=>94 | 127=>132 | 164=>153 | 5=>5 | 80=>97 | n=>n,fun | n=>n⟩
theorem layJoin:Go.Proofs.Lays.n156 Tryz.prog layJoin_ren:={
 mixed:=by kernel_rfl
 f156:=Tryz.func35.trans (Qh some (by kernel_rfl))
 f165:=Tryz.func89.trans (Qh some (by kernel_rfl))
 f166:=Tryz.func90.trans (Qh some (by kernel_rfl))
 f169:=Tryz.func91.trans (Qh some (by kernel_rfl))
 f240:=Tryz.func141.trans (Qh some (by kernel_rfl))
 f241:=Tryz.func142.trans (Qh some (by kernel_rfl))
 f276:=Tryz.func168.trans (Qh some (by kernel_rfl))
 f277:=Tryz.func169.trans (Qh some (by kernel_rfl))
 t0:=Tryz.underlying0
 a0:=Tryz.isAgg0
 z0:=Tryz.sizeOf0
 v0:=Tryz.zeroValue0
 t3:=Tryz.underlying3
 a3:=Tryz.isAgg3
 z3:=Tryz.sizeOf3
 v3:=Tryz.zeroValue3
 t4:=Tryz.underlying4
 a4:=Tryz.isAgg4
 z4:=Tryz.sizeOf4
 v4:=Tryz.zeroValue4
 t9:=Tryz.underlying9
 a9:=Tryz.isAgg9
 z9:=Tryz.sizeOf9
 v9:=Tryz.zeroValue9
 t20:=Tryz.underlying20
 a20:=Tryz.isAgg20
 z20:=Tryz.sizeOf20
 v20:=Tryz.zeroValue20
 t31:=Tryz.underlying26
 a31:=Tryz.isAgg26
 z31:=Tryz.sizeOf26
 v31:=Tryz.zeroValue26
 t37:=Tryz.underlying22
 a37:=Tryz.isAgg22
 z37:=Tryz.sizeOf22
 v37:=Tryz.zeroValue22
 t70:=Tryz.underlying89
 a70:=Tryz.isAgg89
 z70:=Tryz.sizeOf89
 v70:=Tryz.zeroValue89
 t72:=Tryz.underlying91
 a72:=Tryz.isAgg91
 z72:=Tryz.sizeOf91
 v72:=Tryz.zeroValue91
 t75:=Tryz.underlying94
 a75:=Tryz.isAgg94
 z75:=Tryz.sizeOf94
 v75:=Tryz.zeroValue94
 t76:=Tryz.underlying95
 a76:=Tryz.isAgg95
 z76:=Tryz.sizeOf95
 v76:=Tryz.zeroValue95
 t127:=Tryz.underlying132
 a127:=Tryz.isAgg132
 z127:=Tryz.sizeOf132
 v127:=Tryz.zeroValue132
 t164:=Tryz.underlying153
 a164:=Tryz.isAgg153
 z164:=Tryz.sizeOf153
 v164:=Tryz.zeroValue153 }
def layCut_ren:Go.Shelf.Ren:=⟨fun | 145=>38 | 220=>96 | 219=>144 | 217=>170 | 225=>171 | 224=>172 | 267=>173 | 266=>186 | 314=>187 | n=>n,fun | 9=>9 | 4=>4 | 59=>59 | 3=>3 | 5=>5 | 46=>127 | 146=>165 | 51=>149 | n=>n,fun | 1=>0 | n=>n⟩
theorem layCut:Go.Proofs.Lays.n145 Tryz.prog layCut_ren:={
 mixed:=by kernel_rfl
 f145:=Tryz.func38.trans (Qh some (by kernel_rfl))
 f217:=Tryz.func170.trans (Qh some (by kernel_rfl))
 f219:=Tryz.func144.trans (Qh some (by kernel_rfl))
 f220:=Tryz.func96.trans (Qh some (by kernel_rfl))
 f224:=Tryz.func172.trans (Qh some (by kernel_rfl))
 f225:=Tryz.func171.trans (Qh some (by kernel_rfl))
 f266:=Tryz.func186.trans (Qh some (by kernel_rfl))
 f267:=Tryz.func173.trans (Qh some (by kernel_rfl))
 f314:=Tryz.func187.trans (Qh some (by kernel_rfl))
 t3:=Tryz.underlying3
 a3:=Tryz.isAgg3
 z3:=Tryz.sizeOf3
 v3:=Tryz.zeroValue3
 t4:=Tryz.underlying4
 a4:=Tryz.isAgg4
 z4:=Tryz.sizeOf4
 v4:=Tryz.zeroValue4
 t5:=Tryz.underlying5
 a5:=Tryz.isAgg5
 z5:=Tryz.sizeOf5
 v5:=Tryz.zeroValue5
 t9:=Tryz.underlying9
 a9:=Tryz.isAgg9
 z9:=Tryz.sizeOf9
 v9:=Tryz.zeroValue9
 t46:=Tryz.underlying127
 a46:=Tryz.isAgg127
 z46:=Tryz.sizeOf127
 v46:=Tryz.zeroValue127
 t51:=Tryz.underlying149
 a51:=Tryz.isAgg149
 z51:=Tryz.sizeOf149
 v51:=Tryz.zeroValue149
 t59:=Tryz.underlying59
 a59:=Tryz.isAgg59
 z59:=Tryz.sizeOf59
 v59:=Tryz.zeroValue59
 t146:=Tryz.underlying165
 a146:=Tryz.isAgg165
 z146:=Tryz.sizeOf165
 v146:=Tryz.zeroValue165
 g1:=by kernel_rfl }
def layCutM_ren:Go.Shelf.Ren:=⟨fun | 145=>38 | 220=>96 | 219=>144 | 217=>170 | 225=>171 | 224=>172 | 267=>173 | 266=>186 | 314=>187 | n=>n,fun | 9=>9 | 4=>4 | 59=>59 | 3=>3 | 5=>5 | 46=>127 | 146=>165 | 51=>149 | n=>n,fun | 1=>0 | n=>n⟩
theorem layCutM:Go.Proofs.LaysM.n145 Tryz.prog layCutM_ren:={
 mixed:=by kernel_rfl
 f145:=Tryz.func38.trans (Qh some (by kernel_rfl))
 f217:=Tryz.func170.trans (Qh some (by kernel_rfl))
 f219:=Tryz.func144.trans (Qh some (by kernel_rfl))
 f220:=Tryz.func96.trans (Qh some (by kernel_rfl))
 f224:=Tryz.func172.trans (Qh some (by kernel_rfl))
 f225:=Tryz.func171.trans (Qh some (by kernel_rfl))
 f266:=Tryz.func186.trans (Qh some (by kernel_rfl))
 f267:=Tryz.func173.trans (Qh some (by kernel_rfl))
 f314:=Tryz.func187.trans (Qh some (by kernel_rfl))
 t3:=Tryz.underlying3
 a3:=Tryz.isAgg3
 z3:=Tryz.sizeOf3
 v3:=Tryz.zeroValue3
 t4:=Tryz.underlying4
 a4:=Tryz.isAgg4
 z4:=Tryz.sizeOf4
 v4:=Tryz.zeroValue4
 t5:=Tryz.underlying5
 a5:=Tryz.isAgg5
 z5:=Tryz.sizeOf5
 v5:=Tryz.zeroValue5
 t9:=Tryz.underlying9
 a9:=Tryz.isAgg9
 z9:=Tryz.sizeOf9
 v9:=Tryz.zeroValue9
 t46:=Tryz.underlying127
 a46:=Tryz.isAgg127
 z46:=Tryz.sizeOf127
 v46:=Tryz.zeroValue127
 t51:=Tryz.underlying149
 a51:=Tryz.isAgg149
 z51:=Tryz.sizeOf149
 v51:=Tryz.zeroValue149
 t59:=Tryz.underlying59
 a59:=Tryz.isAgg59
 z59:=Tryz.sizeOf59
 v59:=Tryz.zeroValue59
 t146:=Tryz.underlying165
 a146:=Tryz.isAgg165
 z146:=Tryz.sizeOf165
 v146:=Tryz.zeroValue165
 g1:=by kernel_rfl
 i3:=by kernel_rfl
 i4:=by kernel_rfl
 i5:=by kernel_rfl
 i9:=by kernel_rfl
 i46:=by kernel_rfl
 i51:=by kernel_rfl
 i59:=by kernel_rfl
 i146:=by kernel_rfl
 m1:=by kernel_rfl
 s1_3:=fun w h=>Go.Proofs.cell_of_shapedOpen_int (zero:=#[.int .i64 0]) (t:=3) h (Qd (by kernel_rfl)) (by kernel_rfl) rfl (by kernel_rfl) (by kernel_rfl) Tryz.underlying3 }
def laySplit_ren:Go.Shelf.Ren:=⟨fun | 146=>41 | 221=>98 | 268=>145 | 138=>146 | 143=>147 | 195=>174 | 197=>175 | 218=>176 | 219=>144 | 260=>188 | 217=>170 | 225=>171 | 224=>172 | 267=>173 | 266=>186 | 314=>187 | n=>n,fun | 9=>9 | 31=>26 | 3=>3 | 4=>4 | 0=>0 | 105=>157 | 21=>21 | 5=>5 | 46=>127 | 119=>170 | 139=>173 | 138=>172 | 146=>165 | 51=>149 | n=>n,fun | 1=>0 | 3=>1 | 4=>2 | n=>n⟩
theorem laySplit:Go.Proofs.Lays.n146 Tryz.prog laySplit_ren:={
 mixed:=by kernel_rfl
 f138:=Tryz.func146.trans (Qh some (by kernel_rfl))
 f143:=Tryz.func147.trans (Qh some (by kernel_rfl))
 f146:=Tryz.func41.trans (Qh some (by kernel_rfl))
 f195:=Tryz.func174.trans (Qh some (by kernel_rfl))
 f197:=Tryz.func175.trans (Qh some (by kernel_rfl))
 f217:=Tryz.func170.trans (Qh some (by kernel_rfl))
 f218:=Tryz.func176.trans (Qh some (by kernel_rfl))
 f219:=Tryz.func144.trans (Qh some (by kernel_rfl))
 f221:=Tryz.func98.trans (Qh some (by kernel_rfl))
 f224:=Tryz.func172.trans (Qh some (by kernel_rfl))
 f225:=Tryz.func171.trans (Qh some (by kernel_rfl))
 f260:=Tryz.func188.trans (Qh some (by kernel_rfl))
 f266:=Tryz.func186.trans (Qh some (by kernel_rfl))
 f267:=Tryz.func173.trans (Qh some (by kernel_rfl))
 f268:=Tryz.func145.trans (Qh some (by kernel_rfl))
 f314:=Tryz.func187.trans (Qh some (by kernel_rfl))
 t0:=Tryz.underlying0
 a0:=Tryz.isAgg0
 z0:=Tryz.sizeOf0
 v0:=Tryz.zeroValue0
 t3:=Tryz.underlying3
 a3:=Tryz.isAgg3
 z3:=Tryz.sizeOf3
 v3:=Tryz.zeroValue3
 t4:=Tryz.underlying4
 a4:=Tryz.isAgg4
 z4:=Tryz.sizeOf4
 v4:=Tryz.zeroValue4
 t5:=Tryz.underlying5
 a5:=Tryz.isAgg5
 z5:=Tryz.sizeOf5
 v5:=Tryz.zeroValue5
 t9:=Tryz.underlying9
 a9:=Tryz.isAgg9
 z9:=Tryz.sizeOf9
 v9:=Tryz.zeroValue9
 t21:=Tryz.underlying21
 a21:=Tryz.isAgg21
 z21:=Tryz.sizeOf21
 v21:=Tryz.zeroValue21
 t31:=Tryz.underlying26
 a31:=Tryz.isAgg26
 z31:=Tryz.sizeOf26
 v31:=Tryz.zeroValue26
 t46:=Tryz.underlying127
 a46:=Tryz.isAgg127
 z46:=Tryz.sizeOf127
 v46:=Tryz.zeroValue127
 t51:=Tryz.underlying149
 a51:=Tryz.isAgg149
 z51:=Tryz.sizeOf149
 v51:=Tryz.zeroValue149
 t105:=Tryz.underlying157
 a105:=Tryz.isAgg157
 z105:=Tryz.sizeOf157
 v105:=Tryz.zeroValue157
 t119:=Tryz.underlying170
 a119:=Tryz.isAgg170
 z119:=Tryz.sizeOf170
 t138:=Tryz.underlying172
 a138:=Tryz.isAgg172
 z138:=Tryz.sizeOf172
 v138:=Tryz.zeroValue172
 t139:=Tryz.underlying173
 a139:=Tryz.isAgg173
 z139:=Tryz.sizeOf173
 v139:=Tryz.zeroValue173
 t146:=Tryz.underlying165
 a146:=Tryz.isAgg165
 z146:=Tryz.sizeOf165
 v146:=Tryz.zeroValue165
 g1:=by kernel_rfl
 g3:=by kernel_rfl
 g4:=by kernel_rfl }
def laySortS_ren:Go.Shelf.Ren:=⟨fun | 190=>66 | 125=>126 | 258=>125 | 128=>163 | 129=>164 | 302=>154 | 303=>155 | 304=>156 | 305=>157 | 306=>158 | 307=>159 | 308=>160 | 309=>161 | 310=>162 | 333=>180 | 329=>181 | 330=>182 | 334=>183 | 335=>184 | 336=>185 | 344=>192 | n=>n,fun | 31=>26 | 9=>9 | 3=>3 | 46=>127 | 0=>0 | 51=>149 | 53=>151 | 4=>4 | 183=>141 | 182=>140 | 131=>146 | 5=>5 | 218=>159 | 222=>163 | 228=>168 | 229=>120 | n=>n,fun | n=>n⟩
theorem laySortS:Go.Proofs.Lays.n190 Tryz.prog laySortS_ren:={
 mixed:=by kernel_rfl
 f125:=Tryz.func126.trans (Qh some (by kernel_rfl))
 f128:=Tryz.func163.trans (Qh some (by kernel_rfl))
 f129:=Tryz.func164.trans (Qh some (by kernel_rfl))
 f190:=Tryz.func66.trans (Qh some (by kernel_rfl))
 f258:=Tryz.func125.trans (Qh some (by kernel_rfl))
 f302:=Tryz.func154.trans (Qh some (by kernel_rfl))
 f303:=Tryz.func155.trans (Qh some (by kernel_rfl))
 f304:=Tryz.func156.trans (Qh some (by kernel_rfl))
 f305:=Tryz.func157.trans (Qh some (by kernel_rfl))
 f306:=Tryz.func158.trans (Qh some (by kernel_rfl))
 f307:=Tryz.func159.trans (Qh some (by kernel_rfl))
 f308:=Tryz.func160.trans (Qh some (by kernel_rfl))
 f309:=Tryz.func161.trans (Qh some (by kernel_rfl))
 f310:=Tryz.func162.trans (Qh some (by kernel_rfl))
 f329:=Tryz.func181.trans (Qh some (by kernel_rfl))
 f330:=Tryz.func182.trans (Qh some (by kernel_rfl))
 f333:=Tryz.func180.trans (Qh some (by kernel_rfl))
 f334:=Tryz.func183.trans (Qh some (by kernel_rfl))
 f335:=Tryz.func184.trans (Qh some (by kernel_rfl))
 f336:=Tryz.func185.trans (Qh some (by kernel_rfl))
 f344:=Tryz.func192.trans (Qh some (by kernel_rfl))
 t0:=Tryz.underlying0
 a0:=Tryz.isAgg0
 z0:=Tryz.sizeOf0
 v0:=Tryz.zeroValue0
 t3:=Tryz.underlying3
 a3:=Tryz.isAgg3
 z3:=Tryz.sizeOf3
 v3:=Tryz.zeroValue3
 t4:=Tryz.underlying4
 a4:=Tryz.isAgg4
 z4:=Tryz.sizeOf4
 v4:=Tryz.zeroValue4
 t5:=Tryz.underlying5
 a5:=Tryz.isAgg5
 z5:=Tryz.sizeOf5
 v5:=Tryz.zeroValue5
 t9:=Tryz.underlying9
 a9:=Tryz.isAgg9
 z9:=Tryz.sizeOf9
 v9:=Tryz.zeroValue9
 t31:=Tryz.underlying26
 a31:=Tryz.isAgg26
 z31:=Tryz.sizeOf26
 v31:=Tryz.zeroValue26
 t46:=Tryz.underlying127
 a46:=Tryz.isAgg127
 z46:=Tryz.sizeOf127
 v46:=Tryz.zeroValue127
 t51:=Tryz.underlying149
 a51:=Tryz.isAgg149
 z51:=Tryz.sizeOf149
 v51:=Tryz.zeroValue149
 t53:=Tryz.underlying151
 a53:=Tryz.isAgg151
 z53:=Tryz.sizeOf151
 v53:=Tryz.zeroValue151
 t131:=Tryz.underlying146
 a131:=Tryz.isAgg146
 z131:=Tryz.sizeOf146
 v131:=Tryz.zeroValue146
 t182:=Tryz.underlying140
 a182:=Tryz.isAgg140
 z182:=Tryz.sizeOf140
 v182:=Tryz.zeroValue140
 t183:=Tryz.underlying141
 a183:=Tryz.isAgg141
 z183:=Tryz.sizeOf141
 v183:=Tryz.zeroValue141
 t218:=Tryz.underlying159
 a218:=Tryz.isAgg159
 z218:=Tryz.sizeOf159
 v218:=Tryz.zeroValue159
 t222:=Tryz.underlying163
 a222:=Tryz.isAgg163
 z222:=Tryz.sizeOf163
 v222:=Tryz.zeroValue163
 t228:=Tryz.underlying168
 a228:=Tryz.isAgg168
 z228:=Tryz.sizeOf168
 v228:=Tryz.zeroValue168
 t229:=Tryz.underlying120
 a229:=Tryz.isAgg120
 z229:=Tryz.sizeOf120
 v229:=Tryz.zeroValue120 }
def layAtoi_ren:Go.Shelf.Ren:=⟨fun | 172=>177 | 244=>189 | 245=>190 | 247=>193 | 279=>194 | 280=>195 | 281=>196 | 282=>197 | 287=>199 | 316=>200 | 171=>178 | 205=>201 | 321=>206 | 322=>207 | 243=>191 | 246=>198 | 283=>202 | 284=>203 | 285=>204 | 286=>205 | 129=>164 | 317=>208 | 318=>209 | 319=>210 | 320=>211 | 337=>212 | 338=>213 | n=>n,fun | 9=>9 | 3=>3 | 75=>94 | 76=>95 | 4=>4 | 5=>5 | 167=>174 | 37=>22 | 0=>0 | 85=>175 | 2=>2 | 168=>177 | 53=>151 | 175=>181 | 46=>127 | 210=>184 | 127=>132 | 145=>193 | 143=>191 | 21=>21 | 171=>186 | 173=>188 | 212=>195 | 51=>149 | 20=>20 | 213=>196 | 232=>197 | 233=>198 | 80=>97 | n=>n,fun | 15=>3 | 16=>4 | 17=>5 | 18=>6 | 19=>7 | n=>n⟩
theorem layAtoi:Go.Proofs.LaysC.n172 Tryz.prog layAtoi_ren:={
 mixed:=by kernel_rfl
 f129:=Tryz.func164.trans (Qh some (by kernel_rfl))
 f171:=Tryz.func178.trans (Qh some (by kernel_rfl))
 f172:=Tryz.func177.trans (Qh some (by kernel_rfl))
 f205:=Tryz.func201.trans (Qh some (by kernel_rfl))
 f243:=Tryz.func191.trans (Qh some (by kernel_rfl))
 f244:=Tryz.func189.trans (Qh some (by kernel_rfl))
 f245:=Tryz.func190.trans (Qh some (by kernel_rfl))
 f246:=Tryz.func198.trans (Qh some (by kernel_rfl))
 f247:=Tryz.func193.trans (Qh some (by kernel_rfl))
 f279:=Tryz.func194.trans (Qh some (by kernel_rfl))
 f280:=Tryz.func195.trans (Qh some (by kernel_rfl))
 f281:=Tryz.func196.trans (Qh some (by kernel_rfl))
 f282:=Tryz.func197.trans (Qh some (by kernel_rfl))
 f283:=Tryz.func202.trans (Qh some (by kernel_rfl))
 f284:=Tryz.func203.trans (Qh some (by kernel_rfl))
 f285:=Tryz.func204.trans (Qh some (by kernel_rfl))
 f286:=Tryz.func205.trans (Qh some (by kernel_rfl))
 f287:=Tryz.func199.trans (Qh some (by kernel_rfl))
 f316:=Tryz.func200.trans (Qh some (by kernel_rfl))
 f317:=Tryz.func208.trans (Qh some (by kernel_rfl))
 f318:=Tryz.func209.trans (Qh some (by kernel_rfl))
 f319:=Tryz.func210.trans (Qh some (by kernel_rfl))
 f320:=Tryz.func211.trans (Qh some (by kernel_rfl))
 f321:=Tryz.func206.trans (Qh some (by kernel_rfl))
 f322:=Tryz.func207.trans (Qh some (by kernel_rfl))
 f337:=Tryz.func212.trans (Qh some (by kernel_rfl))
 f338:=Tryz.func213.trans (Qh some (by kernel_rfl))
 t0:=Tryz.underlying0
 a0:=Tryz.isAgg0
 z0:=Tryz.sizeOf0
 v0:=Tryz.zeroValue0
 t2:=Tryz.underlying2
 a2:=Tryz.isAgg2
 z2:=Tryz.sizeOf2
 v2:=Tryz.zeroValue2
 t3:=Tryz.underlying3
 a3:=Tryz.isAgg3
 z3:=Tryz.sizeOf3
 v3:=Tryz.zeroValue3
 t4:=Tryz.underlying4
 a4:=Tryz.isAgg4
 z4:=Tryz.sizeOf4
 v4:=Tryz.zeroValue4
 t5:=Tryz.underlying5
 a5:=Tryz.isAgg5
 z5:=Tryz.sizeOf5
 v5:=Tryz.zeroValue5
 t9:=Tryz.underlying9
 a9:=Tryz.isAgg9
 z9:=Tryz.sizeOf9
 v9:=Tryz.zeroValue9
 t20:=Tryz.underlying20
 a20:=Tryz.isAgg20
 z20:=Tryz.sizeOf20
 v20:=Tryz.zeroValue20
 t21:=Tryz.underlying21
 a21:=Tryz.isAgg21
 z21:=Tryz.sizeOf21
 v21:=Tryz.zeroValue21
 t37:=Tryz.underlying22
 a37:=Tryz.isAgg22
 z37:=Tryz.sizeOf22
 v37:=Tryz.zeroValue22
 t46:=Tryz.underlying127
 a46:=Tryz.isAgg127
 z46:=Tryz.sizeOf127
 v46:=Tryz.zeroValue127
 t51:=Tryz.underlying149
 a51:=Tryz.isAgg149
 z51:=Tryz.sizeOf149
 v51:=Tryz.zeroValue149
 t53:=Tryz.underlying151
 a53:=Tryz.isAgg151
 z53:=Tryz.sizeOf151
 v53:=Tryz.zeroValue151
 t75:=Tryz.underlying94
 a75:=Tryz.isAgg94
 z75:=Tryz.sizeOf94
 v75:=Tryz.zeroValue94
 t76:=Tryz.underlying95
 a76:=Tryz.isAgg95
 z76:=Tryz.sizeOf95
 v76:=Tryz.zeroValue95
 t85:=Tryz.underlying175
 a85:=Tryz.isAgg175
 z85:=Tryz.sizeOf175
 v85:=Tryz.zeroValue175
 t127:=Tryz.underlying132
 a127:=Tryz.isAgg132
 z127:=Tryz.sizeOf132
 v127:=Tryz.zeroValue132
 t143:=Tryz.underlying191
 a143:=Tryz.isAgg191
 z143:=Tryz.sizeOf191
 v143:=Tryz.zeroValue191
 t145:=Tryz.underlying193
 a145:=Tryz.isAgg193
 z145:=Tryz.sizeOf193
 v145:=Tryz.zeroValue193
 t167:=Tryz.underlying174
 a167:=Tryz.isAgg174
 z167:=Tryz.sizeOf174
 v167:=Tryz.zeroValue174
 t168:=Tryz.underlying177
 a168:=Tryz.isAgg177
 z168:=Tryz.sizeOf177
 v168:=Tryz.zeroValue177
 t171:=Tryz.underlying186
 a171:=Tryz.isAgg186
 z171:=Tryz.sizeOf186
 v171:=Tryz.zeroValue186
 t173:=Tryz.underlying188
 a173:=Tryz.isAgg188
 z173:=Tryz.sizeOf188
 v173:=Tryz.zeroValue188
 t175:=Tryz.underlying181
 a175:=Tryz.isAgg181
 z175:=Tryz.sizeOf181
 v175:=Tryz.zeroValue181
 t210:=Tryz.underlying184
 a210:=Tryz.isAgg184
 z210:=Tryz.sizeOf184
 v210:=Tryz.zeroValue184
 t212:=Tryz.underlying195
 a212:=Tryz.isAgg195
 z212:=Tryz.sizeOf195
 v212:=Tryz.zeroValue195
 t213:=Tryz.underlying196
 a213:=Tryz.isAgg196
 z213:=Tryz.sizeOf196
 t232:=Tryz.underlying197
 a232:=Tryz.isAgg197
 z232:=Tryz.sizeOf197
 v232:=Tryz.zeroValue197
 t233:=Tryz.underlying198
 a233:=Tryz.isAgg198
 z233:=Tryz.sizeOf198
 v233:=Tryz.zeroValue198
 g15:=by kernel_rfl
 g16:=by kernel_rfl
 g17:=by kernel_rfl
 g18:=by kernel_rfl
 g19:=by kernel_rfl
 t80:=Tryz.underlying97
 a80:=Tryz.isAgg97
 z80:=Tryz.sizeOf97
 v80:=Tryz.zeroValue97
 i0:=by kernel_rfl
 i2:=by kernel_rfl
 i3:=by kernel_rfl
 i4:=by kernel_rfl
 i5:=by kernel_rfl
 i9:=by kernel_rfl
 i20:=by kernel_rfl
 i21:=by kernel_rfl
 i37:=by kernel_rfl
 i46:=by kernel_rfl
 i51:=by kernel_rfl
 i53:=by kernel_rfl
 i75:=by kernel_rfl
 i76:=by kernel_rfl
 i80:=by kernel_rfl
 i85:=by kernel_rfl
 i127:=by kernel_rfl
 i143:=by kernel_rfl
 i145:=by kernel_rfl
 i167:=by kernel_rfl
 i168:=by kernel_rfl
 i171:=by kernel_rfl
 i173:=by kernel_rfl
 i175:=by kernel_rfl
 i210:=by kernel_rfl
 i212:=by kernel_rfl
 i232:=by kernel_rfl
 i233:=by kernel_rfl
 m15:=by kernel_rfl
 m16:=by kernel_rfl
 m17:=by kernel_rfl
 m18:=by kernel_rfl
 m19:=by kernel_rfl
 c0:=by kernel_rfl
 c2:=by kernel_rfl
 c3:=by kernel_rfl
 c4:=by kernel_rfl
 c5:=by kernel_rfl
 c9:=by kernel_rfl
 c20:=by kernel_rfl
 c21:=by kernel_rfl
 c37:=by kernel_rfl
 c46:=by kernel_rfl
 c51:=by kernel_rfl
 c53:=by kernel_rfl
 c75:=by kernel_rfl
 c76:=by kernel_rfl
 c80:=by kernel_rfl
 c85:=by kernel_rfl
 c127:=by kernel_rfl
 c143:=by kernel_rfl
 c145:=by kernel_rfl
 c167:=by kernel_rfl
 c168:=by kernel_rfl
 c171:=by kernel_rfl
 c173:=by kernel_rfl
 c175:=by kernel_rfl
 c210:=by kernel_rfl
 c212:=by kernel_rfl
 c213:=by kernel_rfl
 c232:=by kernel_rfl
 c233:=by kernel_rfl }
def layItoa_ren:Go.Shelf.Ren:=⟨fun | 171=>178 | 243=>191 | 246=>198 | 283=>202 | 284=>203 | 285=>204 | 286=>205 | 129=>164 | 317=>208 | 318=>209 | 319=>210 | 320=>211 | 337=>212 | 338=>213 | n=>n,fun | 3=>3 | 9=>9 | 2=>2 | 4=>4 | 171=>186 | 0=>0 | 53=>151 | 37=>22 | 5=>5 | 173=>188 | 212=>195 | 51=>149 | 20=>20 | 213=>196 | 46=>127 | 232=>197 | 233=>198 | n=>n,fun | 17=>5 | 18=>6 | 19=>7 | n=>n⟩
theorem layItoa:Go.Proofs.LaysM.n171 Tryz.prog layItoa_ren:={
 mixed:=by kernel_rfl
 f129:=Tryz.func164.trans (Qh some (by kernel_rfl))
 f171:=Tryz.func178.trans (Qh some (by kernel_rfl))
 f243:=Tryz.func191.trans (Qh some (by kernel_rfl))
 f246:=Tryz.func198.trans (Qh some (by kernel_rfl))
 f283:=Tryz.func202.trans (Qh some (by kernel_rfl))
 f284:=Tryz.func203.trans (Qh some (by kernel_rfl))
 f285:=Tryz.func204.trans (Qh some (by kernel_rfl))
 f286:=Tryz.func205.trans (Qh some (by kernel_rfl))
 f317:=Tryz.func208.trans (Qh some (by kernel_rfl))
 f318:=Tryz.func209.trans (Qh some (by kernel_rfl))
 f319:=Tryz.func210.trans (Qh some (by kernel_rfl))
 f320:=Tryz.func211.trans (Qh some (by kernel_rfl))
 f337:=Tryz.func212.trans (Qh some (by kernel_rfl))
 f338:=Tryz.func213.trans (Qh some (by kernel_rfl))
 t0:=Tryz.underlying0
 a0:=Tryz.isAgg0
 z0:=Tryz.sizeOf0
 v0:=Tryz.zeroValue0
 t2:=Tryz.underlying2
 a2:=Tryz.isAgg2
 z2:=Tryz.sizeOf2
 v2:=Tryz.zeroValue2
 t3:=Tryz.underlying3
 a3:=Tryz.isAgg3
 z3:=Tryz.sizeOf3
 v3:=Tryz.zeroValue3
 t4:=Tryz.underlying4
 a4:=Tryz.isAgg4
 z4:=Tryz.sizeOf4
 v4:=Tryz.zeroValue4
 t5:=Tryz.underlying5
 a5:=Tryz.isAgg5
 z5:=Tryz.sizeOf5
 v5:=Tryz.zeroValue5
 t9:=Tryz.underlying9
 a9:=Tryz.isAgg9
 z9:=Tryz.sizeOf9
 v9:=Tryz.zeroValue9
 t20:=Tryz.underlying20
 a20:=Tryz.isAgg20
 z20:=Tryz.sizeOf20
 v20:=Tryz.zeroValue20
 t37:=Tryz.underlying22
 a37:=Tryz.isAgg22
 z37:=Tryz.sizeOf22
 v37:=Tryz.zeroValue22
 t46:=Tryz.underlying127
 a46:=Tryz.isAgg127
 z46:=Tryz.sizeOf127
 v46:=Tryz.zeroValue127
 t51:=Tryz.underlying149
 a51:=Tryz.isAgg149
 z51:=Tryz.sizeOf149
 v51:=Tryz.zeroValue149
 t53:=Tryz.underlying151
 a53:=Tryz.isAgg151
 z53:=Tryz.sizeOf151
 v53:=Tryz.zeroValue151
 t171:=Tryz.underlying186
 a171:=Tryz.isAgg186
 z171:=Tryz.sizeOf186
 v171:=Tryz.zeroValue186
 t173:=Tryz.underlying188
 a173:=Tryz.isAgg188
 z173:=Tryz.sizeOf188
 v173:=Tryz.zeroValue188
 t212:=Tryz.underlying195
 a212:=Tryz.isAgg195
 z212:=Tryz.sizeOf195
 v212:=Tryz.zeroValue195
 t213:=Tryz.underlying196
 a213:=Tryz.isAgg196
 z213:=Tryz.sizeOf196
 t232:=Tryz.underlying197
 a232:=Tryz.isAgg197
 z232:=Tryz.sizeOf197
 v232:=Tryz.zeroValue197
 t233:=Tryz.underlying198
 a233:=Tryz.isAgg198
 z233:=Tryz.sizeOf198
 v233:=Tryz.zeroValue198
 g17:=by kernel_rfl
 g18:=by kernel_rfl
 g19:=by kernel_rfl
 i0:=by kernel_rfl
 i2:=by kernel_rfl
 i3:=by kernel_rfl
 i4:=by kernel_rfl
 i5:=by kernel_rfl
 i9:=by kernel_rfl
 i20:=by kernel_rfl
 i37:=by kernel_rfl
 i46:=by kernel_rfl
 i51:=by kernel_rfl
 i53:=by kernel_rfl
 i171:=by kernel_rfl
 i173:=by kernel_rfl
 i212:=by kernel_rfl
 i232:=by kernel_rfl
 i233:=by kernel_rfl
 m17:=by kernel_rfl
 m18:=by kernel_rfl
 m19:=by kernel_rfl }
theorem layJoinX:Builder.Extra Tryz.prog layJoin_ren where
 sizeBuilder:=by kernel_rfl
 liesBuilder:=by kernel_rfl
 t5:=Tryz.underlying5
 a5:=Tryz.isAgg5
 z5:=Tryz.sizeOf5
 v5:=Tryz.zeroValue5
 infoByte:=by kernel_rfl
 cellsByte:=by kernel_rfl
 sizeByte:=by kernel_rfl
 neB5:=by decide
end Go.Proofs.YtabmhncnckahfaaGreatDoor
namespace Go.Proofs.YtabmhncnckahfaaGreatDoor
open Go.RowKit
set_option maxRecDepth 100000
set_option linter.unusedVariables false
set_option linter.unusedSimpArgs false
open Go.Shelf
def decN (s:Za):Int:=match Lib.atoiAll s.data.toList with
 | .ok v=>bif decide (0<=v)&&(Lib.itoa v==s.data.toList) then v else -1
 | _=>-1
theorem GP.tab {w:World} (h:GP w):Lib.TabIs Tryz.prog w "internal/strconv.uint64pow10" .u64 Lib.pow10Tab:=by
 obtain ⟨T,fz,h1⟩:=h.2.2 _ (Qz _ (Qy.2 rfl))
 have hg:=layItoa.m17
 unfold Lib.TabIs World.var?
 rw [hg]
 simp only [Option.bind_some]
 exact (Qh (fun o=>match o with | some (Obj.cells cs _ _)=>some cs | _=>none) h1)
theorem GP.err1 {w:World} (h:GP w):∃ e,w.cell? ⟨layAtoi_ren.g 15,0,none⟩=some e/\(e=.nilIface\/∃ te pe,e=.iface te pe):=h.1 _ uu1
theorem GP.err2 {w:World} (h:GP w):∃ e,w.cell? ⟨layAtoi_ren.g 16,0,none⟩=some e/\(e=.nilIface\/∃ te pe,e=.iface te pe):=h.1 _ uu1
theorem tab_keep {w w':World} (h:Lib.TabIs Tryz.prog w "internal/strconv.uint64pow10" .u64 Lib.pow10Tab) (hb:Below w.heap.size w w'):Lib.TabIs Tryz.prog w' "internal/strconv.uint64pow10" .u64 Lib.pow10Tab:=by
 unfold Lib.TabIs World.var? at h ⊢
 rw [layItoa.m17] at h ⊢
 simp only [Option.bind_some] at h ⊢
 have hlt:layItoa_ren.g 17<w.heap.size:=by
  rcases Gm (layItoa_ren.g 17) w.heap.size with h1 | h1
  ·exact h1
  ·rw [Array.getElem?_eq_none h1] at h; cases h
 rw [hb.block _ hlt]
 exact h
set_option maxHeartbeats 1000000 in
theorem dec_fail (s:Za) (w:World) (v0:Int) (R:World->Prop) (hI:Calls Tryz.prog 177 #[.string s] w fun e w'=>(∃ N,e=.returned (.tuple #[.int .i64 v0,.iface (layAtoi_ren.t 168) (.pointer (some ⟨N,0,none⟩))]))/\Below w.heap.size w w') :
  Calls Tryz.prog 149 #[.string s] w fun e w'=>e=.returned (.int .i64 (-1))/\Below w.heap.size w w':=by
 go_enter Tryz.func149,Tryz.ntmps149
 go_wp2_with (go_at_call 177; refine hI.mono ?_; rintro e W1 ⟨⟨N,rfl⟩,hW⟩)
 go_ret
 exact ⟨rfl,hW⟩
set_option maxHeartbeats 1000000 in
theorem dec_neg (s:Za) (w:World) (v:Int) (hv:decide (v<0)=true) (hI:Calls Tryz.prog 177 #[.string s] w fun e w'=>e=.returned (.tuple #[.int .i64 v,.nilIface])/\Below w.heap.size w w') :
  Calls Tryz.prog 149 #[.string s] w fun e w'=>e=.returned (.int .i64 (-1))/\Below w.heap.size w w':=by
 go_enter Tryz.func149,Tryz.ntmps149
 go_wp2_with (go_at_call 177; refine hI.mono ?_; rintro e W1 ⟨rfl,hW⟩)
 go_ret
 exact ⟨rfl,hW⟩
set_option maxHeartbeats 1000000 in
theorem dec_pos (s:Za) (w:World) (v:Int) (hv:decide (v<0)=false) (hv2:v<=9223372036854775807) (ht:Lib.TabIs Tryz.prog w "internal/strconv.uint64pow10" .u64 Lib.pow10Tab)
  (hI:Calls Tryz.prog 177 #[.string s] w fun e w'=>e=.returned (.tuple #[.int .i64 v,.nilIface])/\Below w.heap.size w w') :
  Calls Tryz.prog 149 #[.string s] w fun e w'=>e=.returned (.int .i64 (bif Lib.itoa v==s.data.toList then v else -1))/\Below w.heap.size w w':=by
 have hv0:0<=v:=by simpa using hv
 have hT:∀ W1,Below w.heap.size w W1->Calls Tryz.prog 178 #[.int .i64 v] W1 fun e w'=>e=.returned (.string ⟨(Lib.itoa v).toArray⟩)/\Below W1.heap.size W1 w':=fun W1 hW=>by
  refine (Any.strconv_Itoa layItoa v uu0 hv2 W1 (tab_keep ht hW)).mono ?_
  rintro e w' ⟨rfl,k,os,rfl⟩
  exact ⟨rfl,⟨rfl,rfl,rfl,by simp [Go.Sort.grow],fun b hb=>by simp [Go.Sort.grow,Tq hb]⟩⟩
 have H:=Lib.hid hT
 clear hT
 have key:(bif Lib.itoa v==s.data.toList then v else -1)=(bif (!(Lib.itoa v==s.toList)) then -1 else v):=by
  have e:s.toList=s.data.toList:=byteToList s
  rw [e]
  cases (Lib.itoa v==s.data.toList) <;> rfl
 rw [key]
 clear key
 go_enter Tryz.func149,Tryz.ntmps149
 go_wp2_with (first | (go_at_call 177; refine hI.mono ?_; rintro e W1 ⟨rfl,hW⟩) | (go_at_call 178; refine (H.out _ hW).mono ?_; rintro e W2 ⟨rfl,hW2⟩))
 all_goals
  rename_i hq
  rw [hq]
  go_ret
  exact ⟨rfl,hW.trans (hW2.mono hW.size)⟩
theorem dec_ok (s:Za) (hs:s.size<=281474976710656) (w:World) (hG:GP w) :
  Calls Tryz.prog 149 #[.string s] w fun e w'=>e=.returned (.int .i64 (decN s))/\Below w.heap.size w w':=by
 unfold decN
 cases h:Lib.atoiAll s.data.toList with
 | ok v =>
  obtain ⟨b0,b1⟩:=Lib.atoiAll_bounds h
  have hI:Calls Tryz.prog 177 #[.string s] w fun e w'=>e=.returned (.tuple #[.int .i64 v,.nilIface])/\Below w.heap.size w w':=by
   refine (Any.strconv_Atoi_ok layAtoi s uu0 v h w).mono ?_
   rintro e w' ⟨rfl,hw⟩
   refine ⟨rfl,?_⟩
   rcases hw with rfl | ⟨t,rfl⟩
   ·exact Below.refl _ _
   ·exact Lib.bytesWorld_below _ _ _
  by_cases hv:v<0
  ·have e1:(bif decide (0<=v)&&(Lib.itoa v==s.data.toList) then v else -1)=-1:=by
    rw [Qq uu0]; rfl
   simp only [e1]
   exact dec_neg s w v (Qs hv) hI
  ·have e1:(bif decide (0<=v)&&(Lib.itoa v==s.data.toList) then v else -1)=(bif Lib.itoa v==s.data.toList then v else -1):=by
    rw [Qs uu0,Sm]
   simp only [e1]
   exact dec_pos s w v (Qq hv) uu0 hG.tab hI
 | range =>
  obtain ⟨ev,h1,h2⟩:=hG.err2
  refine dec_fail s w (Lib.atoiSat s.data.toList) (fun _=>True) ((Any.strconv_Atoi_range layAtoi s hs h ev w h1 h2).mono ?_)
  rintro e w' ⟨N,rfl,_,_,hb⟩
  exact ⟨⟨N,rfl⟩,hb⟩
 | _ =>
  obtain ⟨ev,h1,h2⟩:=hG.err1
  refine dec_fail s w 0 (fun _=>True) ((Any.strconv_Atoi_syntax layAtoi s hs h ev w h1 h2).mono ?_)
  rintro e w' ⟨N,rfl,_,_,hb⟩
  exact ⟨⟨N,rfl⟩,hb⟩
theorem decimal_ok (s:Za):Spec.ok Tryz.prog 149 ⟨[.r (.c (.v (.string s)))],.v (.int .i64 (decN s)),s.size<=281474976710656⟩ false:=by
 intro hs S w vs fp hS hG hA
 obtain ⟨u,us,f,g,rfl,⟨⟨rfl,_⟩,rfl⟩,⟨rfl,rfl⟩,rfl,_⟩:=hA
 refine (dec_ok s hs w hG.1).mono fun e w' ⟨h1,h2⟩=>?_
 exact ⟨_,[],[],h1,⟨rfl,rfl,rfl⟩,⟨_,_,[],[],rfl,rfl,rfl,rfl⟩,Q6,fun b hb=>by simp at hb,⟨h2.os,h2.tape,h2.output,h2.size,fun k hk _=>h2.block k hk,Re _⟩⟩
end Go.Proofs.YtabmhncnckahfaaGreatDoor
namespace Go.Proofs.YtabmhncnckahfaaGreatDoor
theorem uu2{a:Prop}(h:a:=by first | omega | (simp only [lens,ib] at*<;> omega)):a:=h
theorem uu3{a:Prop}(h:a:=by kernel_rfl):a:=h
theorem uu4{a:Prop}(h:a:=by first | omega | assumption | decide | exact list4 _ (by assumption) | exact lq_sz (by assumption) | exact Hf (Re _) | (have h9:=lq_len (by assumption:LQ lines1); omega) | (simp only [Q9,szL] at *; omega)):a:=h
theorem uu5{a:Prop}(h:a:=by (have hz:=specwords_sz line; have hz0:=hz (Int.toNat 0); have hz1:=hz (Int.toNat 1); have hz2:=hz (Int.toNat 2); have hs:Zd.size=1:=rfl; (try simp only [size_app] at *); omega)):a:=h
theorem uu6{a:Prop}(h:a:=by refine ⟨?_,?_⟩ <;> omega):a:=h
theorem uu7{a:Prop}(h:a:=by first | omega | decide):a:=h
theorem uu8{a:Prop}(h:a:=by (omega)):a:=h
theorem uu10{a:Prop}(h:a:=by exact hpre0 _):a:=h
theorem uu11{a:Prop}(h:a:=by (exact kix0 _ (by assumption))):a:=h
theorem uu12{a:Prop}(h:a:=by first | omega | exact cq_sz hpre0 | exact key_lt _ _ | assumption | (have h9:=cq_len hpre0; omega)):a:=h
theorem uu13{a:Prop}(h:a:=by (have h0:0<=(bif (!((lines.length:Int)==0)) then (F48 ⟨r1.b,r1.p⟩ 5).2 else r1.p)/\(bif (!((lines.length:Int)==0)) then (F48 ⟨r1.b,r1.p⟩ 5).2 else r1.p)<=r1.p+1:=(by (cases ((lines.length:Int)==0) <;> simp only [Sc,Tb,Qc,Qb] <;> omega)); omega)):a:=h
theorem uu14{a:Prop}(h:a:=by simp):a:=h
theorem uu15{a:Prop}(h:a:=by (exact kix1 _ (by assumption))):a:=h
theorem uu16{a:Prop}(h:a:=by (first | omega | (have h9:=nat_at lines (by first | omega | (simp only [lens,ib] at*<;> omega)) (Int.toNat 0) (by first | omega | (simp only [lens,ib] at*<;> omega)); unfold natP at h9; omega) | (have h9:=door_at lines (by first | omega | (simp only [lens,ib] at*<;> omega)) (Int.toNat v64) (by first | omega | (simp only [lens,ib] at*<;> omega)); unfold doorP at h9; omega) | (have h9:=door_atT lines (by first | omega | (simp only [lens,ib] at*<;> omega)) (Int.toNat v64) (Int.toNat v89) (by first | omega | (simp only [lens,ib] at*<;> omega)); unfold doorP at h9; omega))):a:=h
theorem uu17{a:Prop}(h:a:=by (try simp only [lens]); omega):a:=h
theorem uu18{a:Prop}(h:a:=by first | omega | assumption | decide | exact cq_lq (Ge (by assumption)) | exact Ge (by assumption) | exact cq_sz (Ge (by assumption)) | exact szLe (lit_le _) (by decide) | (have h9:=cq_len (Ge (by assumption)); omega)):a:=h
theorem uu19{a:Prop}(h:a:=by simp only [pick_p]; omega):a:=h
theorem uu20{a:Prop}(h:a:=by refine ⟨?_,?_⟩ <;> first | omega | (simp only [lens,ib] at*<;> omega)):a:=h
theorem uu21{a:Prop}(h:a:=by exact at_sz all (by assumption) _ _):a:=h
theorem uu22{a:Prop}(h:a:=by exact pick_lt _ _ _ (by omega) (by omega) (by omega)):a:=h
theorem uu23{a:Prop}(h:a:=by simp [h]):a:=h
theorem uu24{a:Prop}(h:a:=by rw [h]; rfl):a:=h
theorem uu25{a:Prop}(h:a:=by refine ⟨?_,?_,?_⟩ <;> first | omega | (simp only [lens,ib] at*<;> omega)):a:=h
theorem uu26{a:Prop}(h:a:=by exact linesL_sz lines _ (by first | omega | (simp only [lens,ib] at*<;> omega)) _ _):a:=h
theorem uu27{a:Prop}(h:a:=by refine ⟨?_,?_,?_,?_,?_⟩ <;> omega):a:=h
theorem uu28{a:Prop}(h:a:=by (apply sumLe; (· repeat (first | with_reducible apply app_le | with_reducible exact dline_sz _ | with_reducible exact of_le (n:=80) _ _ (by decide) | with_reducible exact ext_le (dline_sz _) _ _ | with_reducible exact lit_le _)); (· repeat (first | with_reducible apply app_le | with_reducible exact dline_sz _ | with_reducible exact of_le (n:=80) _ _ (by decide) | with_reducible exact ext_le (dline_sz _) _ _ | with_reducible exact lit_le _)); decide)):a:=h
theorem uu29{a:Prop}(h:a:=by exact pick_lt _ _ _ (by first | omega | (simp only [lens,ib] at*<;> omega)) (by first | omega | (simp only [lens,ib] at*<;> omega)) (by first | omega | (simp only [lens,ib] at*<;> omega))):a:=h
theorem uu30{a:Prop}(h:a:=by (first | omega | (have h9:=lq_get (by assumption:LQ lines1) (F48 ⟨(F33 Ua code).1.b,r3⟩ (lines1.length:Int)).1.toNat; (try simp only [Q9,szL] at *); omega) | (have h9:=lq_get (by assumption:LQ lines1); (try simp only [Q9,szL] at *); omega))):a:=h
theorem uu31{a:Prop}(h:a:=by (simp only [lens,ib] at*<;> omega)):a:=h
theorem uu32{a:Prop}(h:a:=by (exact kix_rule _ (by assumption) (by assumption))):a:=h
theorem uu33{a:Prop}(h:a:=by (exact kix_door _ (by assumption) (by assumption))):a:=h
theorem uu34{a:Prop}(h:a:=by refine ⟨?_,?_,?_⟩ <;> omega):a:=h
theorem uu35{a:Prop}(h:a:=by first | assumption | exact gv3 | (intros; exact trivial) | (intros; exact Re _)):a:=h
theorem uu36{a:Prop}(h:a:=by exact lq_sz (by assumption)):a:=h
theorem uu37{a:Prop}(h:a:=by first | assumption | exact hpre1 _ | exact fun k _=>hpre1 k | (intros; exact trivial) | (intros; exact Re _)):a:=h
theorem uu38{a:Prop}(h:a:=by simp only [Qx]; omega):a:=h
theorem uu39{a:Prop}(h:a:=by refine ⟨?_,?_,?_,?_⟩ <;> omega):a:=h
theorem uu40{a:Prop}(h:a:=by exact parse_lenI _):a:=h
theorem uu41{a:Prop}(h:a:=by exact parseI_sz _):a:=h
theorem uu42{a:Prop}(h:a:=by first | exact cutS_sz _ _ (by omega) _ | omega):a:=h
theorem uu43{a:Prop}(h:a:=by exact cutS_sz _ _ (by omega) _):a:=h
theorem uu44{a:Prop}(h:a:=by first | decide | (have hz:=hpre1 v12.toNat; omega)):a:=h
theorem uu45{a:Prop}(h:a:=by simp only [F58_s0,geD,Qb]):a:=h
theorem uu46{a:Prop}(h:a:=by first | assumption | exact hpre2 _ | exact fun k _=>hpre2 k | (intros; exact trivial) | (intros; exact Re _)):a:=h
theorem uu47{a:Prop}(h:a:=by first | omega | exact (ports_len lines _).1 | exact (ports_len lines _).2 | exact (ports_lenT lines _ _).1 | exact (ports_lenT lines _ _).2):a:=h
theorem uu48{a:Prop}(h:a:=by first | exact (netParse_b _).1 | exact (netParse_b _).2.1):a:=h
theorem uu49{a:Prop}(h:a:=by first | omega | exact specLine_sz _ | assumption):a:=h
theorem uu50{a:Prop}(h:a:=by exact szLe (lit_le _) (by decide)):a:=h
theorem uu51{a:Prop}(h:a:=by (have h9:=lq_len (by assumption:LQ lines); omega)):a:=h
theorem uu52{a:Prop}(h:a:=by refine ⟨?_,?_,?_,?_⟩ <;> first | omega | (simp only [lens,ib] at*<;> omega)):a:=h
theorem uu53{a:Prop}(h:a:=by simp only [Qu,Qx,Rs]; omega):a:=h
theorem uu54{a:Prop}(h:a:=by have hz:=(by assumption:∀ k:Nat,(list.getD k default).size<=1048576) i40.toNat; (try simp only [size_app,sz0] at *); omega):a:=h
theorem uu55{a:Prop}(h:a:=by first | assumption | omega | decide):a:=h
theorem uu56{a:Prop}(h:a:=by exact cuts_sz lines (by assumption)):a:=h
theorem uu57{a:Prop}(h:a:=by first | omega | exact tmod_ix (by omega) (by omega) | exact tmod_ix (wrap73 (by omega) (by omega)) (by omega)):a:=h
theorem uu58{a:Prop}(h:a:=by (simp only [Q9,T8,sz1] at *; omega)):a:=h
theorem uu59{a:Prop}(h:a:=by refine ⟨?_,?_,?_,?_,?_⟩ <;> first | omega | (simp only [lens,ib] at*<;> omega) | (simp only [Q9,T8,sz1] at *; omega) | exact turn_0 _):a:=h
theorem uu60{a:Prop}(h:a:=by (have hm:=many_s (by assumption) (by assumption); omega)):a:=h
theorem uu61{a:Prop}(h:a:=by refine ⟨?_,?_,?_⟩ <;> first | omega | (simp only [lens,ib] at*<;> omega) | omega | assumption | exact cq_lq (Ge (by assumption)) | exact Ge (by assumption) | exact without_lq (by assumption) (by first | omega | (simp only [lens,ib] at*<;> omega)) (by first | omega | (simp only [lens,ib] at*<;> omega)) | exact pr_0 (by assumption) | (have h9:=lq_len (by assumption:LQ lines); omega) | (have h9:=lq_len (by assumption:LQ lines1); omega) | (have h9:=lq_get (by assumption:LQ lines1) (F48 ⟨(F33 Ua code).1.b,r3⟩ (lines1.length:Int)).1.toNat; (try simp only [Q9,szL] at *); omega) | (have h9:=lq_len (by assumption:LQ lines1); simp only [Q9,szL] at *; omega) | (simp only [Q9,szL] at *; omega)):a:=h
theorem uu62{a:Prop}(h:a:=by refine ⟨?_,?_,?_,?_⟩ <;> first | omega | (simp only [lens,ib] at*<;> omega) | omega | assumption | exact cq_lq (Ge (by assumption)) | exact Ge (by assumption) | exact without_lq (by assumption) (by first | omega | (simp only [lens,ib] at*<;> omega)) (by first | omega | (simp only [lens,ib] at*<;> omega)) | exact pr_0 (by assumption) | (have h9:=lq_len (by assumption:LQ lines); omega) | (have h9:=lq_len (by assumption:LQ lines1); omega) | (have h9:=lq_get (by assumption:LQ lines1) (F48 ⟨(F33 Ua code).1.b,r3⟩ (lines1.length:Int)).1.toNat; (try simp only [Q9,szL] at *); omega) | (have h9:=lq_len (by assumption:LQ lines1); simp only [Q9,szL] at *; omega) | (simp only [Q9,szL] at *; omega)):a:=h
theorem uu63{a:Prop}(h:a:=by refine ⟨?_,?_,?_,?_,?_,?_⟩ <;> first | omega | (simp only [lens,ib] at*<;> omega) | (intro k hk hk2; first | exact (by assumption:∀ k:Nat,k<s.length->Qdel (s.getD k default)) k hk2 | exact (by assumption:∀ k:Nat,j1<=(k:Int)->k<xs.length->Qdel (xs.getD k default)) k (by first | omega | (simp only [lens,ib] at*<;> omega)) hk2 | (rw [getD_set_ne _ _ _ _ (by first | omega | (simp only [lens,ib] at*<;> omega))]; exact (by assumption:∀ k:Nat,j1<=(k:Int)->k<xs.length->Qdel (xs.getD k default)) k (by first | omega | (simp only [lens,ib] at*<;> omega)) (by simpa using hk2)))):a:=h
theorem uu64{a:Prop}(h:a:=by refine ⟨?_,?_,?_,?_,?_,?_,?_⟩ <;> first | omega | (simp only [lens,ib] at*<;> omega)):a:=h
theorem uu65{a:Prop}(h:a:=by (rcases Sk ((w1.length:Int)=3) with h3 | h3; omega; (rcases Sk ((w1.length:Int)=5) with h5 | h5; omega; (have e3:((w1.length:Int)==3)=false:=Qw.2 h3; have e5:((w1.length:Int)==5)=false:=Qw.2 h5; simp [e3,e5] at *)))):a:=h
theorem uu66{a:Prop}(h:a:=by refine ⟨?_,?_,?_⟩ <;> (have hz:=(by assumption:∀ k:Nat,(list.getD k default).size<=1048576) i40.toNat; (try simp only [size_app,sz0] at *); omega)):a:=h
theorem uu67{a:Prop}(h:a:=by first | assumption | exact gv2 | (intros; exact trivial) | (intros; exact Re _)):a:=h
theorem uu68{a:Prop}(h:a:=by first | omega | exact join_small _ _ (by assumption) (by omega) (by decide)):a:=h
theorem uu69{a:Prop}(h:a:=by first | assumption | exact hpre0 _ | exact fun k _=>hpre0 k | (intros; exact trivial) | (intros; exact Re _)):a:=h
theorem uu70{a:Prop}(h:a:=by first | omega | exact hpre0 _ | (intros; exact trivial) | (intros; exact Re _)):a:=h
theorem uu71{a:Prop}(h:a:=by (first | omega | (have h9:=port_at lines (by first | omega | (simp only [lens,ib] at*<;> omega)) (Int.toNat v12) (by first | omega | (simp only [lens,ib] at*<;> omega)); unfold portP at h9; omega))):a:=h
theorem uu72{a:Prop}(h:a:=by first | omega | (simp only [Qx,Rs] at *; omega)):a:=h
theorem uu73{a:Prop}(h:a:=by first | omega | assumption | (have h9:=neat_len lines (by omega); omega)):a:=h
theorem uu74{a:Prop}(h:a:=by refine ⟨?_,?_,?_,?_⟩ <;> first | omega | (simp only [lens,ib] at*<;> omega) | exact sz_nil | assumption | omega | (simp only [Gu,Gh,Se,Qo,Tn,Gi,Rj,Tm,Sb,Qw,Qu,Qx,Rs] at *; omega)):a:=h
theorem uu75{a:Prop}(h:a:=by refine ⟨?_,?_⟩ <;> first | exact trivial | omega | (simp only [lens,ib] at*<;> omega) | assumption | exact take_sz (by assumption) _):a:=h
theorem uu76{a:Prop}(h:a:=by refine ⟨?_,?_,?_,?_⟩ <;> first | omega | (simp only [lens,ib] at*<;> omega) | omega | exact sz_nil | assumption | exact sz_app (by assumption) (readLine_sz _ _) | (have h9:=readLine_ok lines1 (q20_1 cuts v39) (by first | assumption | omega); simp only [Qu,Qx,Rs] at *; omega)):a:=h
theorem uu77{a:Prop}(h:a:=by first | assumption | exact (by assumption:∀ k:Nat,(cuts.getD k default).size<=1048576) _):a:=h
theorem uu78{a:Prop}(h:a:=by first | (have h9:=srtL_len lines; omega) | exact sortS_sz (by assumption)):a:=h
theorem uu79{a:Prop}(h:a:=by refine ⟨?_,?_,?_⟩ <;> first | omega | (simp only [lens,ib] at*<;> omega) | (apply szLe; (· repeat (first | (exact (by assumption:tail.size<=100)) | apply app_le | exact of_le (n:=80) _ _ (by decide) | exact prefix_le _ | exact addr_le _ | exact lit_le _)); decide)):a:=h
theorem uu80{a:Prop}(h:a:=by exact szLe (app_le (lit_le _) (of_le (n:=80) _ _ (by decide))) (by decide)):a:=h
theorem uu81{a:Prop}(h:a:=by exact fun q=>Q0 ((by assumption:∀ q:Nat,(out.getD q default).size<=1000) q) (by decide)):a:=h
theorem uu82{a:Prop}(h:a:=by exact pick_lt _ _ _ (by (cases hq:((lines.length:Int)==0) <;> simp only [hq,Sc,Tb,Qc,Qb] at*<;> omega)) (by (cases hq:((lines.length:Int)==0) <;> simp only [hq,Sc,Tb,Qc,Qb] at*<;> omega)) (by omega)):a:=h
theorem uu83{a:Prop}(h:a:=by (have h9:=check_lenI lines (by first | omega | (simp only [lens,ib] at*<;> omega)); have hz:=(by assumption:∀ k:Nat,(lines.getD k default).size<=1048576) v11.toNat; simp only [size_app,sz1] at *; omega)):a:=h
theorem uu84{a:Prop}(h:a:=by (have h9:=check_len lines (by first | omega | (simp only [lens,ib] at*<;> omega)); have hz:=(by assumption:∀ k:Nat,(lines.getD k default).size<=1048576) i40.toNat; simp only [size_app,sz1] at *; omega)):a:=h
theorem uu85{a:Prop}(h:a:=by (first | omega | (have hw:∀ z:Nat,z<=900->IntKind.i64.wrap ((z:Int)+1)=(z:Int)+1:=fun z hz=>wrap_of (by first | omega | (simp only [lens,ib] at*<;> omega)) (by first | omega | (simp only [lens,ib] at*<;> omega)); have hs:=dline_sz (⟨r1.b,r1.p⟩:l51Rd); simp only [hw _ hs] at *; omega))):a:=h
theorem uu86{a:Prop}(h:a:=by refine ⟨?_,?_,?_⟩ <;> first | omega | (simp only [lens,ib] at*<;> omega) | (have hq:=many_tdiv n1 (by assumption); omega) | exact many_mu (by assumption) (by assumption) | exact many_0 _ _ (by assumption) (by assumption) | exact many_1 (by assumption) (by assumption) (by assumption) | exact many_2 (by assumption) (by assumption)):a:=h
theorem uu87{a:Prop}(h:a:=by refine ⟨?_,?_,?_,?_,?_⟩ <;> first | omega | (simp only [lens,ib] at*<;> omega) | omega | assumption | exact cq_lq (Ge (by assumption)) | exact Ge (by assumption) | exact without_lq (by assumption) (by first | omega | (simp only [lens,ib] at*<;> omega)) (by first | omega | (simp only [lens,ib] at*<;> omega)) | exact pr_0 (by assumption) | (have h9:=lq_len (by assumption:LQ lines); omega) | (have h9:=lq_len (by assumption:LQ lines1); omega) | (have h9:=lq_get (by assumption:LQ lines1) (F48 ⟨(F33 Ua code).1.b,r3⟩ (lines1.length:Int)).1.toNat; (try simp only [Q9,szL] at *); omega) | (have h9:=lq_len (by assumption:LQ lines1); simp only [Q9,szL] at *; omega) | (simp only [Q9,szL] at *; omega)):a:=h
theorem ai {a b:Prop} (h:a) (k:b):a/\b:=⟨h,k⟩
theorem ir {d:Dat}:Imp d d := Imp.refl d
abbrev vI (x:Int):Value:=.int .i64 x
open Go.RowKit
set_option maxRecDepth 100000
set_option linter.unusedVariables false
set_option linter.unusedSimpArgs false
theorem mixed:Tryz.prog.follows .mixedOrders=true:=Checked.mixed Tryz.checked
def F38 (s:Za) (sep:Za):Za×Za×Bool :=
 cut3 s sep
def S38 (s:Za) (sep:Za):Spec:=⟨[.r (.c (.v (.string s))),.r (.c (.v (.string sep)))],.tu [.v (.string (F38 s sep).1),.v (.string (F38 s sep).2.1),.v (.bool (F38 s sep).2.2)],s.size<=4294967280⟩
theorem ok38 (s:Za) (sep:Za):(S38 s sep).ok Tryz.prog 38 :=
 cut_ok layCut uu1 s sep
theorem g38_0 (s:Za) (sep:Za):(F38 s sep).1.size<=(s.size:Int):=by
 exact cut3_le1 s sep
theorem g38_1 (s:Za) (sep:Za):(F38 s sep).2.1.size<=(s.size:Int):=by
 exact cut3_le2 s sep
def F149 (text:Za):Int :=
 decN text
def S149 (text:Za):Spec:=⟨[.r (.c (.v (.string text)))],.v (vI (F149 text)),text.size<=281474976710656⟩
theorem ok149 (text:Za):(S149 text).ok Tryz.prog 149 false :=
 decimal_ok text
def F39 (n:Int) (low:Int) (high:Int):Bool :=
 (bif decide (low<=n) then decide (n<=high) else false)
def S39 (R:Bool) (n:Int) (low:Int) (high:Int):Spec:=⟨[.r (.c (.v (vI n))),.r (.c (.v (vI low))),.r (.c (.v (vI high)))],.v (.bool R),True⟩
theorem ok39 (n:Int) (low:Int) (high:Int):(S39 (F39 n low high) n low high).ok Tryz.prog 39 :=
 fnG_ok mixed (fn:=Tryz.f39) (ct:=.seq .no (.seq .no .no)) Tryz.func39 (fun (_:True)=>fiB (bif decide (low<=n) then decide (n<=high) else false) (F39 n low high) rfl) uu3
theorem as39 (n:Int) (low:Int) (high:Int):F39 n low high=(decide (low<=n/\n<=high)):=by
 simp only [F39,Gl,bandd]
theorem oa39 (n:Int) (low:Int) (high:Int):(S39 (decide (low<=n/\n<=high)) n low high).ok Tryz.prog 39:=by
 intro hp; have h:=ok39 n low high hp; rw [as39 n low high] at h; exact h
theorem kc38 (s:Za) (sep:Za) {K_:Prop} (p0_:s.size<=4294967280) (k_:((F38 s sep).1.size<=(s.size:Int))->((F38 s sep).2.1.size<=(s.size:Int))->K_):(s.size<=4294967280)/\(Imp (.v (.string s)) (.v (.string s)))/\(Imp (.v (.string sep)) (.v (.string sep)))/\K_:=⟨p0_,Imp.refl _,Imp.refl _,k_ (g38_0 s sep) (g38_1 s sep)⟩
theorem kc149 (text:Za) {K_:Prop} (p0_:text.size<=281474976710656) (k_:K_):(text.size<=281474976710656)/\(Imp (.v (.string text)) (.v (.string text)))/\K_:=⟨p0_,Imp.refl _,k_⟩
abbrev kh38f (s:Za) (sep:Za):Hint false Tryz.prog:=.call 38 (S38 s sep) ((ok38 s sep).to false) none
abbrev kh149 (text:Za):Hint false Tryz.prog:=.call 149 (S149 text) (ok149 text) none
theorem kc39a (n:Int) (low:Int) (high:Int) {K_:Prop} (k_:K_):(True)/\(Imp (.v (vI n)) (.v (vI n)))/\(Imp (.v (vI low)) (.v (vI low)))/\(Imp (.v (vI high)) (.v (vI high)))/\K_:=⟨trivial,Imp.refl _,Imp.refl _,Imp.refl _,k_⟩
theorem kg39a {K_:Prop} (c_ b_:Bool) (n:Int) (low:Int) (high:Int) (k_:K_):(c_=b_->True)/\(c_=b_->Imp (.v (vI n)) (.v (vI n)))/\(c_=b_->Imp (.v (vI low)) (.v (vI low)))/\(c_=b_->Imp (.v (vI high)) (.v (vI high)))/\K_:=⟨fun _=>trivial,fun _=>Imp.refl _,fun _=>Imp.refl _,fun _=>Imp.refl _,k_⟩
abbrev kh39af (n:Int) (low:Int) (high:Int):Hint false Tryz.prog:=.call 39 (S39 (decide (low<=n/\n<=high)) n low high) ((oa39 n low high).to false) none
abbrev w0_:Za:=⟨#[46]⟩
def F110 (text:Za):Int :=
 bif (bif (bif (!(F38 text ⟨#[46]⟩).2.2) then true else (!(decide (0<=(F149 (F38 text ⟨#[46]⟩).1)/\(F149 (F38 text ⟨#[46]⟩).1)<=255)))) then true else (!(decide (0<=(F149 (F38 text ⟨#[46]⟩).2.1)/\(F149 (F38 text ⟨#[46]⟩).2.1)<=255)))) then (-1) else (IntKind.i64.wrap ((IntKind.i64.wrap (256*(F149 (F38 text ⟨#[46]⟩).1)))+(F149 (F38 text ⟨#[46]⟩).2.1)))
def S110 (text:Za):Spec:=⟨[.r (.c (.v (.string text)))],.v (vI (F110 text)),text.size<=1048576⟩
theorem ok110 (text:Za):(S110 text).ok Tryz.prog 110 false :=
 fnG_ok mixed (fn:=Tryz.f110) (ct:=.seq .no (.seq (.reg [(1,kh38f text w0_)]) (.seq (.reg [(1,kh149 (F38 text w0_).1),(3,kh149 (F38 text w0_).2.1)]) (.seq (.seq (.reg [(4,kh39af (F149 (F38 text w0_).1) 0 255),(9,kh39af (F149 (F38 text w0_).2.1) 0 255)]) (.cond (.seq .no .no) .no)) (.seq .no .no))))) Tryz.func110 (fun (hpre0:text.size<=1048576)=>kc38 text w0_ uu0 (fun gv1 gv2=>kc149 (F38 text w0_).1 uu0 (kc149 (F38 text w0_).2.1 uu0 (kg39a (!(F38 text w0_).2.2) false (F149 (F38 text w0_).1) 0 255 (kg39a (bif (!(F38 text w0_).2.2) then true else (!(decide (0<=(F149 (F38 text w0_).1)/\(F149 (F38 text w0_).1)<=255)))) false (F149 (F38 text w0_).2.1) 0 255 (ifb (bif (bif (!(F38 text w0_).2.2) then true else (!(decide (0<=(F149 (F38 text w0_).1)/\(F149 (F38 text w0_).1)<=255)))) then true else (!(decide (0<=(F149 (F38 text w0_).2.1)/\(F149 (F38 text w0_).2.1)<=255)))) (fun h5=>fiI (-1) (F110 text) (condT h5 rfl)) (fun h5=>have _:(F38 text w0_).2.2=true:=(notEF (orF1 (orF1 h5))); have _:0<=(F149 (F38 text w0_).1)/\(F149 (F38 text w0_).1)<=255:=Qd (notEF (orF2 (orF1 h5))); have _:0<=(F149 (F38 text w0_).2.1)/\(F149 (F38 text w0_).2.1)<=255:=Qd (notEF (orF2 h5)); fiI (IntKind.i64.wrap ((IntKind.i64.wrap (256*(F149 (F38 text w0_).1)))+(F149 (F38 text w0_).2.1))) (F110 text) (condF h5 rfl)))))))) uu3
structure NetPrefix where
 Addr:Int
 Len:Int
 deriving DecidableEq,Inhabited
def eNetPrefix (x:NetPrefix):List Dat:=[.v (vI x.Addr),.v (vI x.Len)]
def F179 (p:NetPrefix):Int :=
 (IntKind.i64.wrap (1*2 ^ (min (16-p.Len).toNat IntKind.i64.bits)))
def S179 (p:NetPrefix):Spec:=⟨[.r (.g (eNetPrefix p))],.v (vI (F179 p)),0<=p.Len/\p.Len<=16⟩
theorem ok179 (p:NetPrefix):(S179 p).ok Tryz.prog 179 :=
 fnG_ok mixed (fn:=Tryz.f179) (ct:=.seq .no (.seq (.reg [(2,.bnd)]) .no)) Tryz.func179 (fun (hp:0<=p.Len/\p.Len<=16)=>have hpre0:=hp.1; have hpre1:=hp.2; ai (iok (16-p.Len) uu0) (ai (uu0:0<=(16-p.Len)) (fiI (IntKind.i64.wrap (1*2 ^ (min (16-p.Len).toNat IntKind.i64.bits))) (F179 p) rfl))) uu3
theorem g179_0 (p:NetPrefix):0<=p.Len->p.Len<=16->1<=(F179 p)/\(F179 p)<=65536:=by
 obtain ⟨a,l⟩:=p; intro h1 h2; simp only at h1 h2; have h3:l=0\/l=1\/l=2\/l=3\/l=4\/l=5\/l=6\/l=7\/l=8\/l=9\/l=10\/l=11\/l=12\/l=13\/l=14\/l=15\/l=16:=by omega
 rcases h3 with rfl | rfl | rfl | rfl | rfl | rfl | rfl | rfl | rfl | rfl | rfl | rfl | rfl | rfl | rfl | rfl | rfl <;> exact Qd rfl
abbrev kh39a (n:Int) (low:Int) (high:Int):Hint true Tryz.prog:=.call 39 (S39 (decide (low<=n/\n<=high)) n low high) (oa39 n low high) none
theorem kc179 (p:NetPrefix) {K_:Prop} (p0_:0<=p.Len) (p1_:p.Len<=16) (q0_:0<=p.Len) (q1_:p.Len<=16) (k_:(1<=(F179 p)/\(F179 p)<=65536)->(0<=p.Len->p.Len<=16->1<=(F179 p)/\(F179 p)<=65536)->K_):(0<=p.Len/\p.Len<=16)/\(Imps (eNetPrefix p) (eNetPrefix p))/\K_:=⟨⟨p0_,p1_⟩,Imps.refl _,k_ (g179_0 p q0_ q1_) (g179_0 p)⟩
theorem kg179 {K_:Prop} (c_ b_:Bool) (p:NetPrefix) (p_:c_=b_->0<=p.Len/\p.Len<=16) (k_:K_):(c_=b_->0<=p.Len/\p.Len<=16)/\(c_=b_->Imps (eNetPrefix p) (eNetPrefix p))/\K_:=⟨p_,fun _=>Imps.refl _,k_⟩
abbrev kh179 (p:NetPrefix):Hint true Tryz.prog:=.call 179 (S179 p) (ok179 p) none
def F152 (p:NetPrefix):Bool :=
 (bif (bif (decide (0<=p.Len/\p.Len<=16)) then (decide (0<=p.Addr/\p.Addr<=65535)) else false) then ((p.Addr.tmod (F179 p))==0) else false)
def S152 (p:NetPrefix):Spec:=⟨[.r (.g (eNetPrefix p))],.v (.bool (F152 p)),True⟩
theorem ok152 (p:NetPrefix):(S152 p).ok Tryz.prog 152 :=
 fnG_ok mixed (fn:=Tryz.f152) (ct:=.seq .no (.seq (.reg [(2,kh39a p.Len 0 16),(6,kh39a p.Addr 0 65535),(12,kh179 p)]) .no)) Tryz.func152 (fun (_:True)=>kc39a p.Len 0 16 (kg39a (decide (0<=p.Len/\p.Len<=16)) true p.Addr 0 65535 (kg179 (bif (decide (0<=p.Len/\p.Len<=16)) then (decide (0<=p.Addr/\p.Addr<=65535)) else false) true p (fun k4=>have _:=Qd (andT1 k4); have _:=Qd (andT2 k4); ⟨uu0,uu0⟩) (ai (fun k5:(bif (decide (0<=p.Len/\p.Len<=16)) then (decide (0<=p.Addr/\p.Addr<=65535)) else false)=true=>have _:=Qd (andT1 k5); have _:=Qd (andT2 k5); (by have h9:=g179_0 p (by omega) (by omega); omega:¬ (F179 p)=0)) (fiB (bif (bif (decide (0<=p.Len/\p.Len<=16)) then (decide (0<=p.Addr/\p.Addr<=65535)) else false) then ((p.Addr.tmod (F179 p))==0) else false) (F152 p) rfl))))) uu3
theorem kc110 (text:Za) {K_:Prop} (p0_:text.size<=1048576) (k_:K_):(text.size<=1048576)/\(Imp (.v (.string text)) (.v (.string text)))/\K_:=⟨p0_,Imp.refl _,k_⟩
abbrev kh110 (text:Za):Hint false Tryz.prog:=.call 110 (S110 text) (ok110 text) none
abbrev w1_:Za:=⟨#[47]⟩
def F114 (text:Za):NetPrefix×Bool :=
 bif (bif (!(F38 text ⟨#[47]⟩).2.2) then true else (!(F152 ⟨(F110 (F38 text ⟨#[47]⟩).1),(F149 (F38 text ⟨#[47]⟩).2.1)⟩))) then ((⟨0,0⟩:NetPrefix),false) else ((⟨(F110 (F38 text ⟨#[47]⟩).1),(F149 (F38 text ⟨#[47]⟩).2.1)⟩:NetPrefix),true)
theorem fi114 (text:Za) (r:NetPrefix×Bool) (hF:r=(F114 text)):((.int .i64 r.1.Addr:Value)=.int .i64 (F114 text).1.Addr)/\((.int .i64 r.1.Len:Value)=.int .i64 (F114 text).1.Len)/\((.bool r.2:Value)=.bool (F114 text).2)/\True:=by cases hF; exact ⟨rfl,rfl,rfl,trivial⟩
def S114 (text:Za):Spec:=⟨[.r (.c (.v (.string text)))],.tu [.ag [.v (vI (F114 text).1.Addr),.v (vI (F114 text).1.Len)],.v (.bool (F114 text).2)],text.size<=1048576⟩
theorem ok114 (text:Za):(S114 text).ok Tryz.prog 114 false :=
 fnG_ok mixed (fn:=Tryz.f114) (ct:=.seq .no (.seq (.reg [(1,kh38f text w1_)]) (.seq (.reg [(1,kh110 (F38 text w1_).1),(3,kh149 (F38 text w1_).2.1)]) (.seq (.seq (.reg [(4,.call 152 (S152 (⟨(F110 (F38 text w1_).1),(F149 (F38 text w1_).2.1)⟩:NetPrefix)) ((ok152 (⟨(F110 (F38 text w1_).1),(F149 (F38 text w1_).2.1)⟩:NetPrefix)).to false) none)]) (.cond (.seq .no .no) .no)) (.seq .no .no))))) Tryz.func114 (fun (hpre0:text.size<=1048576)=>kc38 text w1_ uu0 (fun gv1 gv2=>kc110 (F38 text w1_).1 uu0 (kc149 (F38 text w1_).2.1 uu0 (ai (fun k3:(!(F38 text w1_).2.2)=false=>have _:(F38 text w1_).2.2=true:=(notEF k3); trivial) (ai (fun k4:(!(F38 text w1_).2.2)=false=>have _:(F38 text w1_).2.2=true:=(notEF k4); (Imps.refl (eNetPrefix (⟨(F110 (F38 text w1_).1),(F149 (F38 text w1_).2.1)⟩:NetPrefix)))) (ifb (bif (!(F38 text w1_).2.2) then true else (!(F152 ⟨(F110 (F38 text w1_).1),(F149 (F38 text w1_).2.1)⟩))) (fun h5=>fi114 text ((⟨0,0⟩:NetPrefix),false) (condT h5 rfl)) (fun h5=>have _:(F38 text w1_).2.2=true:=(notEF (orF1 h5)); fi114 text ((⟨(F110 (F38 text w1_).1),(F149 (F38 text w1_).2.1)⟩:NetPrefix),true) (condF h5 rfl)))))))) uu3
def F41 (s:Za) (sep:Za):List Za :=
 splitS s sep
def S41 (s:Za) (sep:Za):Spec:=⟨[.r (.c (.v (.string s))),.r (.c (.v (.string sep)))],.ow (.l 1 eStr (F41 s sep)),s.size<=4294967280/\1<=sep.size⟩
theorem ok41 (s:Za) (sep:Za):(S41 s sep).ok Tryz.prog 41 :=
 split_ok laySplit uu3 uu1 s sep
def F128_s0 (s:List Za) (v1:Za):Int->Lp Int Int:=fun v8 =>
 bif (decide (v8<(s.length:Int))) then (bif (v1.toList==(s.getD v8.toNat default).toList) then (.ret v8) else (.next (v8+1))) else (.done v8)
def F128 (s:List Za) (v1:Za):Int :=
 (runL (F128_s0 s v1) (((s.length:Int)-0).toNat+1) 0).fin (fun r=>r) (fun v8=>(-1))
abbrev lN128_0 (s:List Za):Nat×Int:=((((s.length:Int)-0).toNat+1),0)
abbrev lI128_0 (s:List Za) (m39:Nat) (v8:Int):Prop:=Int.toNat ((s.length:Int)-v8)<m39/\(0:Int)<=v8
abbrev lX128_0 (s:List Za) (v1:Za):Lp Int Int:=LpX (F128_s0 s v1) (lN128_0 s)
abbrev lJ128_0 (s:List Za) (v1:Za) (i:Nat×Int):Prop:=LpJ (F128_s0 s v1) (lN128_0 s) i (lI128_0 s i.1 i.2)
abbrev lH128_0 (s:List Za) (v1:Za) (i:Nat×Int) (m39:Nat) (v8:Int):Prop:=LpH (F128_s0 s v1) (lN128_0 s) i m39 v8 (lI128_0 s (m39+1) v8)
abbrev lE128_0 (s:List Za) (v1:Za) (v8:Int) (v8_:Int) (K39:Prop):Prop:=(Rf (.string v1))/\(Rf (.int .i64 (s.length:Int)))/\((.int .i64 v8:Value)=.int .i64 v8_)/\(Im (.l 1 eStr s))/\K39
theorem un128_0 (s:List Za) (v1:Za) (i:Nat×Int) (h:lJ128_0 s v1 i):lH128_0 s v1 i (i.1-1) i.2:=⟨hd1 h.1 h.2.1,hd3 h.2.1,hd2 h.2.1,h.2.2⟩
theorem bk128_0 (s:List Za) (v1:Za) (i:Nat×Int) (m39:Nat) (v8:Int) (hl:m39<i.1) (e:runL (F128_s0 s v1) m39 v8=lX128_0 s v1) (h:lI128_0 s m39 v8):∃ j:Nat×Int,lE128_0 s v1 v8 j.2 (lJ128_0 s v1 j/\j.1<i.1):=⟨(m39,v8),rfl,rfl,rfl,Imp.refl _,⟨e,h⟩,hl⟩
theorem en128_0 (s:List Za) (v1:Za) (h:(0:Int)<=0):lE128_0 s v1 0 0 (lJ128_0 s v1 (lN128_0 s)):=⟨rfl,rfl,rfl,Imp.refl _,rfl,Qr _,h⟩
def S128 (s:List Za) (v1:Za):Spec:=⟨[.r (.c (.l 1 eStr s)),.r (.c (.v (.string v1)))],.v (vI (F128 s v1)),True⟩
theorem ok128 (s:List Za) (v1:Za):(S128 s v1).ok Tryz.prog 128 :=
 fnG_ok mixed (fn:=Tryz.f128) (ct:=.seqk [(0,0)] .no (.seq (.seqk [(0,0)] .no (.blk (.loop (ι:=Nat×Int) (fun i=>(fun (v8:Int)=>(⟨[(0,some (.h 0 0)),(1,some (.v (.string v1))),(7,some (.v (vI (s.length:Int)))),(8,some (.v (vI v8)))],[(0,some (.shr none (.l 1 eStr s)))],1⟩:St)) i.2) (lJ128_0 s v1) (fun i=>i.1) (lN128_0 s) (fun i=>(fun (v8:Int)=>(.seq .no (.seq (.cond .no .no) (.seq (.blk (.seq .no (.seq .no (.cond (.seq .no .no) .no)))) (.reg [(0,.bnd)]))))) i.2)))) (.seq .no .no))) Tryz.func128 (fun (_:True)=>kn s fun _=>kn s fun _=>ai (en128_0 s v1 uu0) (fun (i0:Nat×Int) (hi0:lJ128_0 s v1 i0)=>(fun (m0:Nat) (v8:Int) (hh0:lH128_0 s v1 i0 m0 v8)=>have hI0:=hh0.1; have hl0:=hh0.2.1; have _:=hh0.2.2.1; have _:=hh0.2.2.2; ifd (v8<(s.length:Int)) (fun h2 _=>ai (uu0:ib v8 s) (ifb (v1.toList==(s.getD v8.toNat default).toList) (fun h3=>fiI v8 (F128 s v1) (finR (runL_ret hI0 (condT h2 (condT h3 rfl))) rfl)) (fun h3=>ai (iok (v8+1) uu0) (bk128_0 s v1 i0 m0 (v8+1) hl0 (runL_next hI0 (condT h2 (condF h3 rfl))) uu6)))) (fun h2 _=>have hD0_4:lX128_0 s v1=Lp.done v8:=runL_done hI0 (condF h2 rfl); fiI (-1) (F128 s v1) (finD hD0_4 rfl))) (i0.1-1) i0.2 (un128_0 s v1 i0 hi0))) uu3
theorem kc128 (s:List Za) (v1:Za) {K_:Prop} (k_:K_):(True)/\(Imp (.l 1 eStr s) (.l 1 eStr s))/\(Imp (.v (.string v1)) (.v (.string v1)))/\K_:=⟨trivial,Imp.refl _,Imp.refl _,k_⟩
abbrev kh128 (s:List Za) (v1:Za):Hint true Tryz.prog:=.call 128 (S128 s v1) (ok128 s v1) none
def F75 (s:List Za) (v1:Za):Bool :=
 decide ((F128 s v1)>=0)
def S75 (s:List Za) (v1:Za):Spec:=⟨[.r (.c (.l 1 eStr s)),.r (.c (.v (.string v1)))],.v (.bool (F75 s v1)),True⟩
theorem ok75 (s:List Za) (v1:Za):(S75 s v1).ok Tryz.prog 75 :=
 fnG_ok mixed (fn:=Tryz.f75) (ct:=.seqk [(0,0)] .no (.seq (.reg [(2,kh128 s v1)]) .no)) Tryz.func75 (fun (_:True)=>kn s fun _=>kc128 s v1 (fiB (decide ((F128 s v1)>=0)) (F75 s v1) rfl)) uu3
theorem kc41 (s:Za) (sep:Za) {K_:Prop} (p0_:s.size<=4294967280) (p1_:1<=sep.size) (q0_:1<=sep.size) (q1_:1<=sep.size) (k_:((F41 s sep).length<=s.size+1)->(1<=(F41 s sep).length)->K_):(s.size<=4294967280/\1<=sep.size)/\(Imp (.v (.string s)) (.v (.string s)))/\(Imp (.v (.string sep)) (.v (.string sep)))/\K_:=⟨⟨p0_,p1_⟩,Imp.refl _,Imp.refl _,k_ (splitS_le s sep q0_) (splitS_pos s sep q1_)⟩
abbrev kh41 (s:Za) (sep:Za):Hint true Tryz.prog:=.call 41 (S41 s sep) (ok41 s sep) none
theorem kc75 (s:List Za) (v1:Za) {K_:Prop} (k_:K_):(True)/\(Imp (.l 1 eStr s) (.l 1 eStr s))/\(Imp (.v (.string v1)) (.v (.string v1)))/\K_:=⟨trivial,Imp.refl _,Imp.refl _,k_⟩
abbrev kh75 (s:List Za) (v1:Za):Hint true Tryz.prog:=.call 75 (S75 s v1) (ok75 s v1) none
abbrev w2_:Za:=⟨#[44]⟩
abbrev Wd:List Za:=[Zb,Zq,Zc,Zh,Ze,Zi,Zg,Zk]
def F129_s0 (word:Za):Int->Lp Int (List Za×Bool):=fun v19 =>
 bif (decide (v19<((F41 word ⟨#[44]⟩).length:Int))) then (bif (bif (!(F75 Wd ((F41 word ⟨#[44]⟩).getD v19.toNat default))) then true else (bif decide (v19>0) then (!(Op.bytesLess ((F41 word ⟨#[44]⟩).getD (v19-1).toNat default).toList ((F41 word ⟨#[44]⟩).getD v19.toNat default).toList)) else false)) then (.ret (([]:List Za),false)) else (.next (v19+1))) else (.done v19)
def F129 (word:Za):List Za×Bool :=
 bif (bif (word.toList==Zr.toList) then true else (word.toList==Zu.toList)) then (([word]:List Za),true) else ((runL (F129_s0 word) ((((F41 word ⟨#[44]⟩).length:Int)-0).toNat+1) 0).fin (fun r=>r) (fun v19=>((F41 word ⟨#[44]⟩),true)))
abbrev lN129_0 (word:Za):Nat×Int:=(((((F41 word w2_).length:Int)-0).toNat+1),0)
abbrev lI129_0 (word:Za) (m39:Nat) (v19:Int):Prop:=Int.toNat (((F41 word w2_).length:Int)-v19)<m39/\(0:Int)<=v19
abbrev lX129_0 (word:Za):Lp Int (List Za×Bool):=LpX (F129_s0 word) (lN129_0 word)
abbrev lJ129_0 (word:Za) (i:Nat×Int):Prop:=LpJ (F129_s0 word) (lN129_0 word) i (lI129_0 word i.1 i.2)
abbrev lH129_0 (word:Za) (i:Nat×Int) (m39:Nat) (v19:Int):Prop:=LpH (F129_s0 word) (lN129_0 word) i m39 v19 (lI129_0 word (m39+1) v19)
abbrev lE129_0 (word:Za) (v19:Int) (v19_:Int) (K39:Prop):Prop:=(Rf (.int .i64 ((F41 word w2_).length:Int)))/\((.int .i64 v19:Value)=.int .i64 v19_)/\(Im (.l 1 eStr (F41 word w2_)))/\K39
theorem un129_0 (word:Za) (i:Nat×Int) (h:lJ129_0 word i):lH129_0 word i (i.1-1) i.2:=⟨hd1 h.1 h.2.1,hd3 h.2.1,hd2 h.2.1,h.2.2⟩
theorem bk129_0 (word:Za) (i:Nat×Int) (m39:Nat) (v19:Int) (hl:m39<i.1) (e:runL (F129_s0 word) m39 v19=lX129_0 word) (h:lI129_0 word m39 v19):∃ j:Nat×Int,lE129_0 word v19 j.2 (lJ129_0 word j/\j.1<i.1):=⟨(m39,v19),rfl,rfl,Imp.refl _,⟨e,h⟩,hl⟩
theorem en129_0 (word:Za) (h:(0:Int)<=0):lE129_0 word 0 0 (lJ129_0 word (lN129_0 word)):=⟨rfl,rfl,Imp.refl _,rfl,Qr _,h⟩
theorem fi129 (word:Za) (r:List Za×Bool) (hF:r=(F129 word)):(Imp (.l 1 eStr r.1) (.l 1 eStr (F129 word).1))/\((.bool r.2:Value)=.bool (F129 word).2)/\True:=by cases hF; exact ⟨Imp.refl _,rfl,trivial⟩
def S129 (word:Za):Spec:=⟨[.r (.c (.v (.string word)))],.tu [.ow (.l 1 eStr (F129 word).1),.v (.bool (F129 word).2)],word.size<=1048576⟩
theorem ok129 (word:Za):(S129 word).ok Tryz.prog 129 :=
 fnG_ok mixed (fn:=Tryz.f129) (ct:=.seq .no (.seq (.seq .no (.cond (.seq (.reg [(1,.dat (.l 1 eStr ([word]:List Za)))]) .no) .no)) (.seq (.reg [(1,kh41 word w2_)]) (.seq (.seqk [(4,0),(17,0)] .no (.blk (.loop (ι:=Nat×Int) (fun i=>(fun (v19:Int)=>(⟨[(4,some (.h 0 0)),(17,some (.h 0 0)),(18,some (.v (vI ((F41 word w2_).length:Int)))),(19,some (.v (vI v19)))],[(0,some (.own 0 (.l 1 eStr (F41 word w2_))))],1⟩:St)) i.2) (lJ129_0 word) (fun i=>i.1) (lN129_0 word) (fun i=>(fun (v19:Int)=>(.seq .no (.seq (.cond .no .no) (.seq (.blk (.seq .no (.seq (.reg [(0,.dat (.l 1 eStr Wd)),(2,kh75 Wd ((F41 word w2_).getD v19.toNat default)),(10,.bnd)]) (.cond (.seq .no .no) .no)))) (.reg [(0,.bnd)]))))) i.2)))) (.seq .no .no))))) Tryz.func129 (fun (hpre0:word.size<=1048576)=>ifb (bif (word.toList==Zr.toList) then true else (word.toList==Zu.toList)) (fun h1=>ai (bokr 1 eStr ([word]:List Za) fun _=>rfl) (fi129 word (([word]:List Za),true) (condT h1 rfl))) (fun h1=>have _:(word.toList==Zr.toList)=false:=(orF1 h1); have _:(word.toList==Zu.toList)=false:=(orF2 h1); kc41 word w2_ uu0 uu1 uu1 uu1 (fun gv2 gv3=>kn (F41 word w2_) fun _=>kn (F41 word w2_) fun _=>ai (en129_0 word uu0) (fun (i0:Nat×Int) (hi0:lJ129_0 word i0)=>(fun (m0:Nat) (v19:Int) (hh0:lH129_0 word i0 m0 v19)=>have hI0:=hh0.1; have hl0:=hh0.2.1; have _:=hh0.2.2.1; have _:=hh0.2.2.2; ifd (v19<((F41 word w2_).length:Int)) (fun h5 _=>ai (uu0:ib v19 (F41 word w2_)) (ai (bokr 1 eStr Wd fun _=>rfl) (kc75 Wd ((F41 word w2_).getD v19.toNat default) (ai (fun k7:(decide (v19>0))=true=>have _:=Qd k7; (fun k6:(!(F75 Wd ((F41 word w2_).getD v19.toNat default)))=false=>iok (v19-1) uu0)) (ai (fun k9:(decide (v19>0))=true=>have _:=Qd k9; (fun k8:(!(F75 Wd ((F41 word w2_).getD v19.toNat default)))=false=>(uu0:ib (v19-1) (F41 word w2_)))) (ifb (bif (!(F75 Wd ((F41 word w2_).getD v19.toNat default))) then true else (bif decide (v19>0) then (!(Op.bytesLess ((F41 word w2_).getD (v19-1).toNat default).toList ((F41 word w2_).getD v19.toNat default).toList)) else false)) (fun h10=>(fun hF:(([]:List Za),false)=(F129 word)=>ai ((Imp.nil 1 eStr).trans (Imp.of_eq (Qh (fun r:List Za×Bool=>Dat.l 1 eStr r.1) hF))) (ai (Qh (fun r:List Za×Bool=>(.bool r.2:Value)) hF) trivial)) (condF h1 (finR (runL_ret hI0 (condT h5 (condT h10 rfl))) rfl))) (fun h10=>ai (iok (v19+1) uu0) (bk129_0 word i0 m0 (v19+1) hl0 (runL_next hI0 (condT h5 (condF h10 rfl))) uu6)))))))) (fun h5 _=>have hD0_11:lX129_0 word=Lp.done v19:=runL_done hI0 (condF h5 rfl); fi129 word ((F41 word w2_),true) (condF h1 (finD hD0_11 rfl)))) (i0.1-1) i0.2 (un129_0 word i0 hi0))))) uu3
def F42 (w1:Za):Bool :=
 (w1.toList==Zf.toList)
def S42 (w1:Za):Spec:=⟨[.r (.c (.v (.string w1)))],.v (.bool (F42 w1)),True⟩
theorem ok42 (w1:Za):(S42 w1).ok Tryz.prog 42 :=
 fnG_ok mixed (fn:=Tryz.f42) (ct:=.seq .no (.seq .no .no)) Tryz.func42 (fun (_:True)=>fiB (w1.toList==Zf.toList) (F42 w1) rfl) uu3
def fsQ64 (Q:Za->Prop) (p:Za->Bool):FnSpec:=⟨Za,fun i=>[.c (.x (PX (.v (.string i)) (Q i)))],fun i=>.bool (p i)⟩
def F97_s0 (s:List Za) (f:Za->Bool):Int->Lp Int Int:=fun v8 =>
 bif (decide (v8<(s.length:Int))) then (bif (f (s.getD v8.toNat default)) then (.ret v8) else (.next (v8+1))) else (.done v8)
def F97 (s:List Za) (f:Za->Bool):Int :=
 (runL (F97_s0 s f) (((s.length:Int)-0).toNat+1) 0).fin (fun r=>r) (fun v8=>(-1))
abbrev lN97_0 (s:List Za):Nat×Int:=((((s.length:Int)-0).toNat+1),0)
abbrev lI97_0 (s:List Za) (m39:Nat) (v8:Int):Prop:=Int.toNat ((s.length:Int)-v8)<m39/\(0:Int)<=v8
abbrev lX97_0 (s:List Za) (f:Za->Bool):Lp Int Int:=LpX (F97_s0 s f) (lN97_0 s)
abbrev lJ97_0 (s:List Za) (f:Za->Bool) (i:Nat×Int):Prop:=LpJ (F97_s0 s f) (lN97_0 s) i (lI97_0 s i.1 i.2)
abbrev lH97_0 (s:List Za) (f:Za->Bool) (i:Nat×Int) (m39:Nat) (v8:Int):Prop:=LpH (F97_s0 s f) (lN97_0 s) i m39 v8 (lI97_0 s (m39+1) v8)
abbrev lE97_0 (Qf:Za->Prop) (s:List Za) (f:Za->Bool) (v8:Int) (v8_:Int) (K39:Prop):Prop:=(Rf (.int .i64 (s.length:Int)))/\((.int .i64 v8:Value)=.int .i64 v8_)/\(Im (.l 1 eStr s))/\(fsQ64 Qf f=fsQ64 Qf f)/\K39
theorem un97_0 (s:List Za) (f:Za->Bool) (i:Nat×Int) (h:lJ97_0 s f i):lH97_0 s f i (i.1-1) i.2:=⟨hd1 h.1 h.2.1,hd3 h.2.1,hd2 h.2.1,h.2.2⟩
theorem bk97_0 (Qf:Za->Prop) (s:List Za) (f:Za->Bool) (i:Nat×Int) (m39:Nat) (v8:Int) (hl:m39<i.1) (e:runL (F97_s0 s f) m39 v8=lX97_0 s f) (h:lI97_0 s m39 v8):∃ j:Nat×Int,lE97_0 Qf s f v8 j.2 (lJ97_0 s f j/\j.1<i.1):=⟨(m39,v8),rfl,rfl,Imp.refl _,rfl,⟨e,h⟩,hl⟩
theorem en97_0 (Qf:Za->Prop) (s:List Za) (f:Za->Bool) (h:(0:Int)<=0):lE97_0 Qf s f 0 0 (lJ97_0 s f (lN97_0 s)):=⟨rfl,rfl,Imp.refl _,rfl,rfl,Qr _,h⟩
def S97 (R:Int) (s:List Za) (f:Za->Bool) (Qf:Za->Prop):Spec:=⟨[.r (.c (.l 1 eStr s)),.fn (fsQ64 Qf f)],.v (vI R),(∀ k:Nat,k<s.length->Qf (s.getD k default))⟩
theorem ok97 (s:List Za) (f:Za->Bool) (Qf:Za->Prop):(S97 (F97 s f) s f Qf).ok Tryz.prog 97 false :=
 fnG_ok mixed (fn:=Tryz.f97) (ct:=.seqk [(0,0)] .no (.seq (.seqk [(0,0)] .no (.blk (.loop (ι:=Nat×Int) (fun i=>(fun (v8:Int)=>(⟨[(0,some (.h 0 0)),(1,some (.h 1 0)),(7,some (.v (vI (s.length:Int)))),(8,some (.v (vI v8)))],[(0,some (.shr none (.l 1 eStr s))),(1,some (.fn (fsQ64 Qf f)))],2⟩:St)) i.2) (lJ97_0 s f) (fun i=>i.1) (lN97_0 s) (fun i=>(fun (v8:Int)=>(.seq .no (.seq (.cond .no .no) (.seq (.blk (.seq .no (.seq (.reg [(5,.fnv (fsQ64 Qf f) (s.getD v8.toNat default))]) (.cond (.seq .no .no) .no)))) (.reg [(0,.bnd)]))))) i.2)))) (.seq .no .no))) Tryz.func97 (fun (hpre0:∀ k:Nat,k<s.length->Qf (s.getD k default))=>kn s fun _=>kn s fun _=>ai (en97_0 Qf s f uu0) (fun (i0:Nat×Int) (hi0:lJ97_0 s f i0)=>(fun (m0:Nat) (v8:Int) (hh0:lH97_0 s f i0 m0 v8)=>have hI0:=hh0.1; have hl0:=hh0.2.1; have _:=hh0.2.2.1; have _:=hh0.2.2.2; ifd (v8<(s.length:Int)) (fun h2 _=>ai (uu0:ib v8 s) (ai (Eq.refl (fsQ64 Qf f)) (ai (Imp.px (d:=.v (.string (s.getD v8.toNat default))) (hpre0 v8.toNat uu0)) (ifb (f (s.getD v8.toNat default)) (fun h3=>fiI v8 (F97 s f) (finR (runL_ret hI0 (condT h2 (condT h3 rfl))) rfl)) (fun h3=>ai (iok (v8+1) uu0) (bk97_0 Qf s f i0 m0 (v8+1) hl0 (runL_next hI0 (condT h2 (condF h3 rfl))) uu6)))))) (fun h2 _=>have hD0_4:lX97_0 s f=Lp.done v8:=runL_done hI0 (condF h2 rfl); fiI (-1) (F97 s f) (finD hD0_4 rfl))) (i0.1-1) i0.2 (un97_0 s f i0 hi0))) uu3
theorem as97 (s:List Za) (f:Za->Bool):F97 s f=(idxI f s):=by
 exact idx_loop f s (F97_s0 s f) (fun i=>rfl)
theorem oa97 (s:List Za) (f:Za->Bool) (Qf:Za->Prop):(S97 (idxI f s) s f Qf).ok Tryz.prog 97 false:=by
 intro hp; have h:=ok97 s f Qf hp; rw [as97 s f] at h; exact h
theorem g97_0 (s:List Za) (f:Za->Bool):(idxI f s)<(s.length:Int):=by
 exact idxI_lt f s
theorem g97_1 (s:List Za) (f:Za->Bool):-1<=(idxI f s):=by
 (show -1<=idxI f s; unfold idxI; cases first (fun k=>f (s.getD k default)) s.length <;> simp only [oix] <;> omega)
theorem kc97a (s:List Za) (f:Za->Bool) (Qf:Za->Prop) {K_:Prop} (p0_:∀ k:Nat,k<s.length->Qf (s.getD k default)) (k_:((idxI f s)<(s.length:Int))->(-1<=(idxI f s))->K_):(∀ k:Nat,k<s.length->Qf (s.getD k default))/\(Imp (.l 1 eStr s) (.l 1 eStr s))/\(fsQ64 Qf f=fsQ64 Qf f)/\K_:=⟨p0_,Imp.refl _,rfl,k_ (g97_0 s f) (g97_1 s f)⟩
abbrev kh97a (s:List Za) (f:Za->Bool) (Qf:Za->Prop):Hint false Tryz.prog:=.call 97 (S97 (idxI f s) s f Qf) (oa97 s f Qf) none
def F40_s0 (s:List Za) (del:Za->Bool):(Int×Int×List Za)->Lp (Int×Int×List Za) (List Za):=fun (i41,j1,xs) =>
 bif (decide (j1<(xs.length:Int))) then (bif (!(del (xs.getD j1.toNat default))) then (.next ((i41+1),(j1+1),(xs.set (i41).toNat (xs.getD j1.toNat default)))) else (.next (i41,(j1+1),xs))) else (.done (i41,j1,xs))
def F40_j0 (s:List Za) (del:Za->Bool):Lp (List Za×Int) (List Za) :=
 (runL (F40_s0 s del) (((s.length:Int)-((idxI del s)+1)).toNat+1) ((idxI del s),((idxI del s)+1),s)).fin Lp.ret (fun (i41,j1,xs)=>.done (xs,i41))
def F40 (s:List Za) (del:Za->Bool):List Za :=
 bif ((idxI del s)==(-1)) then s else ((F40_j0 s del).fin (fun r=>r) (fun (s1,i40)=>((s1.take i40.toNat++List.replicate (s1.drop i40.toNat).length (Zf:Za)++s1.drop (i40.toNat+(s1.drop i40.toNat).length)).take i40.toNat)))
abbrev lN40_0 (s:List Za) (del:Za->Bool):Nat×(Int×Int×List Za):=((((s.length:Int)-((idxI del s)+1)).toNat+1),((idxI del s),((idxI del s)+1),s))
abbrev lI40_0 (Qdel:Za->Prop) (s:List Za) (m39:Nat) (i41:Int) (j1:Int) (xs:List Za):Prop:=Int.toNat ((xs.length:Int)-j1)<m39/\(0<=i41/\i41<j1)/\j1<=(xs.length:Int)/\xs.length<=1000000000/\(∀ k:Nat,j1<=(k:Int)->k<xs.length->Qdel (xs.getD k default))/\xs.length=s.length
abbrev lX40_0 (s:List Za) (del:Za->Bool):Lp (Int×Int×List Za) (List Za):=LpX (F40_s0 s del) (lN40_0 s del)
abbrev lJ40_0 (Qdel:Za->Prop) (s:List Za) (del:Za->Bool) (i:Nat×(Int×Int×List Za)):Prop:=LpJ (F40_s0 s del) (lN40_0 s del) i (lI40_0 Qdel s i.1 i.2.1 i.2.2.1 i.2.2.2)
abbrev lH40_0 (Qdel:Za->Prop) (s:List Za) (del:Za->Bool) (i:Nat×(Int×Int×List Za)) (m39:Nat) (i41:Int) (j1:Int) (xs:List Za):Prop:=LpH (F40_s0 s del) (lN40_0 s del) i m39 (i41,j1,xs) (lI40_0 Qdel s (m39+1) i41 j1 xs)
abbrev lE40_0 (Qdel:Za->Prop) (del:Za->Bool) (i41:Int) (j1:Int) (xs:List Za) (i41_:Int) (j1_:Int) (xs_:List Za) (K39:Prop):Prop:=((.int .i64 i41:Value)=.int .i64 i41_)/\((.int .i64 j1:Value)=.int .i64 j1_)/\(Imp (.l 1 eStr xs) (.l 1 eStr xs_))/\(fsQ64 Qdel del=fsQ64 Qdel del)/\K39
theorem un40_0 (Qdel:Za->Prop) (s:List Za) (del:Za->Bool) (i:Nat×(Int×Int×List Za)) (h:lJ40_0 Qdel s del i):lH40_0 Qdel s del i (i.1-1) i.2.1 i.2.2.1 i.2.2.2:=⟨hd1 h.1 h.2.1,hd3 h.2.1,hd2 h.2.1,h.2.2⟩
theorem bk40_0 (Qdel:Za->Prop) (s:List Za) (del:Za->Bool) (i:Nat×(Int×Int×List Za)) (m39:Nat) (i41:Int) (j1:Int) (xs:List Za) (hl:m39<i.1) (e:runL (F40_s0 s del) m39 (i41,j1,xs)=lX40_0 s del) (h:lI40_0 Qdel s m39 i41 j1 xs):∃ j:Nat×(Int×Int×List Za),lE40_0 Qdel del i41 j1 xs j.2.1 j.2.2.1 j.2.2.2 (lJ40_0 Qdel s del j/\j.1<i.1):=⟨(m39,(i41,j1,xs)),rfl,rfl,Imp.refl _,rfl,⟨e,h⟩,hl⟩
theorem en40_0 (Qdel:Za->Prop) (s:List Za) (del:Za->Bool) (h:(0<=(idxI del s)/\(idxI del s)<((idxI del s)+1))/\((idxI del s)+1)<=(s.length:Int)/\s.length<=1000000000/\(∀ k:Nat,((idxI del s)+1)<=(k:Int)->k<s.length->Qdel (s.getD k default))/\s.length=s.length):lE40_0 Qdel del (idxI del s) ((idxI del s)+1) s (idxI del s) ((idxI del s)+1) s (lJ40_0 Qdel s del (lN40_0 s del)):=⟨rfl,rfl,Imp.refl _,rfl,rfl,Qr _,h⟩
abbrev jI40_0 (s:List Za) (del:Za->Bool) (s1:List Za) (i40:Int):Prop:=(0<=i40/\i40<=(s1.length:Int))/\True
abbrev jJ40_0 (s:List Za) (del:Za->Bool) (j:List Za×Int):Prop:=(F40_j0 s del)=Lp.done j/\jI40_0 s del j.1 j.2
theorem jn40_0 (s:List Za) (del:Za->Bool) (s1:List Za) (i40:Int) (e:(F40_j0 s del)=Lp.done (s1,i40)) (h:jI40_0 s del s1 i40):∃ j:List Za×Int,((.int .i64 i40:Value)=.int .i64 j.2)/\(Imp (.l 1 eStr s1) (.l 1 eStr j.1))/\jJ40_0 s del j:=⟨(s1,i40),rfl,Imp.refl _,e,h⟩
theorem fi40 (s:List Za) (del:Za->Bool) (r:List Za) (hF:r=(F40 s del)):(Imp (.l 1 eStr r) (.l 1 eStr (F40 s del)))/\True:=by cases hF; exact ⟨Imp.refl _,trivial⟩
def S40 (R:List Za) (s:List Za) (del:Za->Bool) (Qdel:Za->Prop):Spec:=⟨[.ow (.l 1 eStr s) none,.fn (fsQ64 Qdel del)],.ow (.l 1 eStr R),s.length<=1000000000/\(∀ k:Nat,k<s.length->Qdel (s.getD k default))⟩
theorem ok40 (s:List Za) (del:Za->Bool) (Qdel:Za->Prop):(S40 (F40 s del) s del Qdel).ok Tryz.prog 40 false :=
 fnG_ok mixed (fn:=Tryz.f40) (ct:=.seqk [(0,0)] .no (.seq (.reg [(2,kh97a s del Qdel)]) (.seq (.seq .no (.cond (.seq .no .no) .no)) (.cut (ι:=List Za×Int) (fun j=>(fun (s1:List Za) (i40:Int)=>(⟨[(0,some (.h 0 0)),(5,some (.v (vI i40)))],[(0,some (.own 0 (.l 1 eStr s1)))],1⟩:St)) j.1 j.2) (jJ40_0 s del) (.seqk [(0,0)] (.reg [(1,.bnd)]) (.blk (.loop (ι:=Nat×(Int×Int×List Za)) (fun i=>(fun (i41:Int) (j1:Int) (xs:List Za)=>(⟨[(0,some (.h 0 0)),(1,some (.h 1 0)),(5,some (.v (vI i41))),(6,some (.v (vI j1)))],[(0,some (.own 0 (.l 1 eStr xs))),(1,some (.fn (fsQ64 Qdel del)))],2⟩:St)) i.2.1 i.2.2.1 i.2.2.2) (lJ40_0 Qdel s del) (fun i=>i.1) (lN40_0 s del) (fun i=>(fun (i41:Int) (j1:Int) (xs:List Za)=>(.seq (.seq .no (.cond .no .no)) (.seq (.blk (.seq .no (.seq (.reg [(2,.fnv (fsQ64 Qdel del) (xs.getD j1.toNat default))]) (.cond (.seq (.reg [(4,.dat (.l 1 eStr (xs.set (i41).toNat (xs.getD j1.toNat default))))]) (.reg [(1,.bnd)])) .no)))) (.reg [(1,.bnd)])))) i.2.1 i.2.2.1 i.2.2.2)))) (fun j=>(fun (s1:List Za) (i40:Int)=>(.seq (.reg [(2,.part),(3,.dat (.l 1 eStr (s1.take i40.toNat++List.replicate (s1.drop i40.toNat).length (Zf:Za)++s1.drop (i40.toNat+(s1.drop i40.toNat).length))))]) (.seq (.reg [(2,.own)]) .no))) j.1 j.2))))) Tryz.func40 (fun (hp:s.length<=1000000000/\(∀ k:Nat,k<s.length->Qdel (s.getD k default)))=>have hpre0:=hp.1; have hpre1:=hp.2; kn s fun _=>kc97a s del Qdel uu37 (fun gv1 gv2=>ife (idxI del s) (-1) (fun h3 _=>fi40 s del s (condT h3 rfl)) (fun h3 _=>ai (ai (iok ((idxI del s)+1) uu2) (kn s fun _=>ai (en40_0 Qdel s del (by refine ⟨?_,?_,?_,?_,?_⟩ <;> first | omega | (simp only [lens,ib] at*<;> omega) | (intro k hk hk2; first | exact (by assumption:∀ k:Nat,k<s.length->Qdel (s.getD k default)) k hk2 | exact (by assumption:∀ k:Nat,j1<=(k:Int)->k<xs.length->Qdel (xs.getD k default)) k (by first | omega | (simp only [lens,ib] at*<;> omega)) hk2 | (rw [getD_set_ne _ _ _ _ (by first | omega | (simp only [lens,ib] at*<;> omega))]; exact (by assumption:∀ k:Nat,j1<=(k:Int)->k<xs.length->Qdel (xs.getD k default)) k (by first | omega | (simp only [lens,ib] at*<;> omega)) (by simpa using hk2))))) (fun (i0:Nat×(Int×Int×List Za)) (hi0:lJ40_0 Qdel s del i0)=>(fun (m0:Nat) (i41:Int) (j1:Int) (xs:List Za) (hh0:lH40_0 Qdel s del i0 m0 i41 j1 xs)=>have hI0:=hh0.1; have hl0:=hh0.2.1; have _:=hh0.2.2.1; have _:=hh0.2.2.2.1; have _:=hh0.2.2.2.2.1; have _:=hh0.2.2.2.2.2.1; have _:=hh0.2.2.2.2.2.2.1; have _:=hh0.2.2.2.2.2.2.2; ifd (j1<(xs.length:Int)) (fun h5 _=>ai (uu2:ib j1 xs) (ai (Eq.refl (fsQ64 Qdel del)) (ai (Imp.px (d:=.v (.string (xs.getD j1.toNat default))) ((uu9:∀ k:Nat,j1<=(k:Int)->k<xs.length->Qdel (xs.getD k default)) j1.toNat uu2 uu2)) (ifb (!(del (xs.getD j1.toNat default))) (fun h6=>have _:=(notET h6); ai (uu2:ib i41 xs) (ai (setr 1 eStr xs (i41).toNat (xs.getD j1.toNat default)) (ai (iok (i41+1) uu2) (ai (iok (j1+1) uu2) (bk40_0 Qdel s del i0 m0 (i41+1) (j1+1) (xs.set (i41).toNat (xs.getD j1.toNat default)) hl0 (runL_next hI0 (condT h5 (condT h6 rfl))) uu63))))) (fun h6=>have _:=(notEF h6); ai (iok (j1+1) uu2) (bk40_0 Qdel s del i0 m0 i41 (j1+1) xs hl0 (runL_next hI0 (condT h5 (condF h6 rfl))) uu63)))))) (fun h5 _=>have hD0_7:lX40_0 s del=Lp.done (i41,j1,xs):=runL_done hI0 (condF h5 rfl); jn40_0 s del xs i41 (S5 (finD hD0_7 rfl)) (by refine ⟨?_,?_⟩ <;> first | exact trivial | omega | (simp only [lens,ib] at*<;> omega)))) (i0.1-1) i0.2.1 i0.2.2.1 i0.2.2.2 (un40_0 Qdel s del i0 hi0)))) (fun (j:List Za×Int) (hj:jJ40_0 s del j)=>(fun (s1:List Za) (i40:Int) (hJ0_8:(F40_j0 s del)=Lp.done (s1,i40)) (hw:jI40_0 s del s1 i40)=>have _:=hw.1; ai (uu2:0<=i40/\i40<=(s1.length:Int)/\(s1.length:Int)<=(s1.length:Int)) (ai (ClearOK.mk eStr s1 (Zf:Za) rfl (fun y e he=>by simp only [eStr,Qt,Rl,Gy] at he; rcases he with rfl <;> exact ⟨_,rfl⟩):ClearOK (.l 1 eStr s1) i40.toNat (s1.drop i40.toNat).length 1 [.string Zf] (.l 1 eStr (s1.take i40.toNat++List.replicate (s1.drop i40.toNat).length (Zf:Za)++s1.drop (i40.toNat+(s1.drop i40.toNat).length)))) (ai (uu2:0<=(0:Int)/\(0:Int)<=i40/\i40<=((s1.take i40.toNat++List.replicate (s1.drop i40.toNat).length (Zf:Za)++s1.drop (i40.toNat+(s1.drop i40.toNat).length)).length:Int)) (fi40 s del ((s1.take i40.toNat++List.replicate (s1.drop i40.toNat).length (Zf:Za)++s1.drop (i40.toNat+(s1.drop i40.toNat).length)).take i40.toNat) (condF h3 (finD hJ0_8 rfl)))))) j.1 j.2 hj.1 hj.2)))) uu3
theorem as40 (s:List Za) (del:Za->Bool):F40 s del=(s.filter (fun x=>!(del x))):=by
 exact del_loop del s _ (F40_s0 s del) (fun i j xs=>rfl)
theorem oa40 (s:List Za) (del:Za->Bool) (Qdel:Za->Prop):(S40 (s.filter (fun x=>!(del x))) s del Qdel).ok Tryz.prog 40 false:=by
 intro hp; have h:=ok40 s del Qdel hp; rw [as40 s del] at h; exact h
def F44 (w1:Za):Bool :=
 decide ((w1.size:Int)>24)
def S44 (w1:Za):Spec:=⟨[.r (.c (.v (.string w1)))],.v (.bool (F44 w1)),True⟩
theorem ok44 (w1:Za):(S44 w1).ok Tryz.prog 44 :=
 fnG_ok mixed (fn:=Tryz.f44) (ct:=.seq .no (.seq .no .no)) Tryz.func44 (fun (_:True)=>fiB (decide ((w1.size:Int)>24)) (F44 w1) rfl) uu3
def F43 (s:List Za) (f:Za->Bool):Bool :=
 decide ((idxI f s)>=0)
def S43 (R:Bool) (s:List Za) (f:Za->Bool) (Qf:Za->Prop):Spec:=⟨[.r (.c (.l 1 eStr s)),.fn (fsQ64 Qf f)],.v (.bool R),(∀ k:Nat,k<s.length->Qf (s.getD k default))⟩
theorem ok43 (s:List Za) (f:Za->Bool) (Qf:Za->Prop):(S43 (F43 s f) s f Qf).ok Tryz.prog 43 false :=
 fnG_ok mixed (fn:=Tryz.f43) (ct:=.seqk [(0,0)] .no (.seq (.reg [(2,kh97a s f Qf)]) .no)) Tryz.func43 (fun (hpre0:∀ k:Nat,k<s.length->Qf (s.getD k default))=>kn s fun _=>kc97a s f Qf uu9 (fun gv1 gv2=>fiB (decide ((idxI f s)>=0)) (F43 s f) rfl)) uu3
theorem as43 (s:List Za) (f:Za->Bool):F43 s f=(s.any f):=by
 exact any_idx f s
theorem oa43 (s:List Za) (f:Za->Bool) (Qf:Za->Prop):(S43 (s.any f) s f Qf).ok Tryz.prog 43 false:=by
 intro hp; have h:=ok43 s f Qf hp; rw [as43 s f] at h; exact h
abbrev kh41f (s:Za) (sep:Za):Hint false Tryz.prog:=.call 41 (S41 s sep) ((ok41 s sep).to false) none
def F10_s0 (line:Za):Int->Lp Int (List Za×Bool):=fun i40 =>
 bif (decide (i40<((F38 line Zj).1.size:Int))) then (bif (!(decide (32<=(IntKind.i64.wrap (((F38 line Zj).1.data.getD i40.toNat 0).toNat:Int))/\(IntKind.i64.wrap (((F38 line Zj).1.data.getD i40.toNat 0).toNat:Int))<=126))) then (.ret (([]:List Za),false)) else (.next (i40+1))) else (.done i40)
def F10 (line:Za):List Za×Bool :=
 (runL (F10_s0 line) ((((F38 line Zj).1.size:Int)-0).toNat+1) 0).fin (fun r=>r) (fun i40=>bif (bif decide ((((F41 (F38 line Zj).1 Zd).filter (fun x=>!((fun (x0:Za)=>F42 x0) x))).length:Int)>8) then true else (((F41 (F38 line Zj).1 Zd).filter (fun x=>!((fun (x0:Za)=>F42 x0) x))).any (fun (x0:Za)=>F44 x0))) then (([]:List Za),false) else (((F41 (F38 line Zj).1 Zd).filter (fun x=>!((fun (x0:Za)=>F42 x0) x))),true))
abbrev lN10_0 (line:Za):Nat×Int:=(((((F38 line Zj).1.size:Int)-0).toNat+1),0)
abbrev lI10_0 (line:Za) (m39:Nat) (i40:Int):Prop:=Int.toNat (((F38 line Zj).1.size:Int)-i40)<m39/\(0:Int)<=i40
abbrev lX10_0 (line:Za):Lp Int (List Za×Bool):=LpX (F10_s0 line) (lN10_0 line)
abbrev lJ10_0 (line:Za) (i:Nat×Int):Prop:=LpJ (F10_s0 line) (lN10_0 line) i (lI10_0 line i.1 i.2)
abbrev lH10_0 (line:Za) (i:Nat×Int) (m39:Nat) (i40:Int):Prop:=LpH (F10_s0 line) (lN10_0 line) i m39 i40 (lI10_0 line (m39+1) i40)
abbrev lE10_0 (line:Za) (i40:Int) (i40_:Int) (K39:Prop):Prop:=(Rf (.string (F38 line Zj).1))/\((.int .i64 i40:Value)=.int .i64 i40_)/\K39
theorem un10_0 (line:Za) (i:Nat×Int) (h:lJ10_0 line i):lH10_0 line i (i.1-1) i.2:=⟨hd1 h.1 h.2.1,hd3 h.2.1,hd2 h.2.1,h.2.2⟩
theorem bk10_0 (line:Za) (i:Nat×Int) (m39:Nat) (i40:Int) (hl:m39<i.1) (e:runL (F10_s0 line) m39 i40=lX10_0 line) (h:lI10_0 line m39 i40):∃ j:Nat×Int,lE10_0 line i40 j.2 (lJ10_0 line j/\j.1<i.1):=⟨(m39,i40),rfl,rfl,⟨e,h⟩,hl⟩
theorem en10_0 (line:Za) (h:(0:Int)<=0):lE10_0 line 0 0 (lJ10_0 line (lN10_0 line)):=⟨rfl,rfl,rfl,Qr _,h⟩
theorem fi10 (line:Za) (r:List Za×Bool) (hF:r=(F10 line)):(Imp (.l 1 eStr r.1) (.l 1 eStr (F10 line).1))/\((.bool r.2:Value)=.bool (F10 line).2)/\True:=by cases hF; exact ⟨Imp.refl _,rfl,trivial⟩
def S10 (line:Za):Spec:=⟨[.r (.c (.v (.string line)))],.tu [.ow (.l 1 eStr (F10 line).1),.v (.bool (F10 line).2)],line.size<=1048576⟩
theorem ok10 (line:Za):(S10 line).ok Tryz.prog 10 false :=
 fnG_ok mixed (fn:=Tryz.f10) (ct:=.seq .no (.seq (.reg [(1,kh38f line Zj)]) (.seq (.seq .no (.blk (.loop (ι:=Nat×Int) (fun i=>(fun (i40:Int)=>(⟨[(0,some (.v (.string (F38 line Zj).1))),(4,some (.v (vI i40)))],[],0⟩:St)) i.2) (lJ10_0 line) (fun i=>i.1) (lN10_0 line) (fun i=>(fun (i40:Int)=>(.seq (.seq .no (.cond .no .no)) (.seq (.blk (.seq (.reg [(4,kh39af (IntKind.i64.wrap (((F38 line Zj).1.data.getD i40.toNat 0).toNat:Int)) 32 126)]) (.cond (.seq .no .no) .no))) (.reg [(1,.bnd)])))) i.2)))) (.seq (.reg [(1,kh41f (F38 line Zj).1 Zd),(2,.call 40 (S40 ((F41 (F38 line Zj).1 Zd).filter (fun x=>!((fun (x0:Za)=>F42 x0) x))) (F41 (F38 line Zj).1 Zd) (fun (x0:Za)=>F42 x0) (fun (x0:Za)=>True)) (oa40 (F41 (F38 line Zj).1 Zd) (fun (x0:Za)=>F42 x0) (fun (x0:Za)=>True)) (some ⟨true,42,fsQ64 (fun (x0:Za)=>True) (fun (x0:Za)=>F42 x0),[],rfl,True,fun i=>ok_px (ok42 i)⟩))]) (.seq (.seq (.reg [(5,.call 43 (S43 (((F41 (F38 line Zj).1 Zd).filter (fun x=>!((fun (x0:Za)=>F42 x0) x))).any (fun (x0:Za)=>F44 x0)) ((F41 (F38 line Zj).1 Zd).filter (fun x=>!((fun (x0:Za)=>F42 x0) x))) (fun (x0:Za)=>F44 x0) (fun (x0:Za)=>True)) (oa43 ((F41 (F38 line Zj).1 Zd).filter (fun x=>!((fun (x0:Za)=>F42 x0) x))) (fun (x0:Za)=>F44 x0) (fun (x0:Za)=>True)) (some ⟨true,44,fsQ64 (fun (x0:Za)=>True) (fun (x0:Za)=>F44 x0),[],rfl,True,fun i=>ok_px (ok44 i)⟩))]) (.cond (.seq .no .no) .no)) (.seq .no .no)))))) Tryz.func10 (fun (hpre0:line.size<=1048576)=>kc38 line Zj uu0 (fun gv1 gv2=>ai (en10_0 line uu0) (fun (i0:Nat×Int) (hi0:lJ10_0 line i0)=>(fun (m0:Nat) (i40:Int) (hh0:lH10_0 line i0 m0 i40)=>have hI0:=hh0.1; have hl0:=hh0.2.1; have _:=hh0.2.2.1; have _:=hh0.2.2.2; ifd (i40<((F38 line Zj).1.size:Int)) (fun h4 _=>ai (uu0:0<=i40/\i40<((F38 line Zj).1.size:Int)) (kc39a (IntKind.i64.wrap (((F38 line Zj).1.data.getD i40.toNat 0).toNat:Int)) 32 126 (ifb (!(decide (32<=(IntKind.i64.wrap (((F38 line Zj).1.data.getD i40.toNat 0).toNat:Int))/\(IntKind.i64.wrap (((F38 line Zj).1.data.getD i40.toNat 0).toNat:Int))<=126))) (fun h5=>have _:¬ (32<=(IntKind.i64.wrap (((F38 line Zj).1.data.getD i40.toNat 0).toNat:Int))/\(IntKind.i64.wrap (((F38 line Zj).1.data.getD i40.toNat 0).toNat:Int))<=126):=Qv (notET h5); (fun hF:(([]:List Za),false)=(F10 line)=>ai ((Imp.nil 1 eStr).trans (Imp.of_eq (Qh (fun r:List Za×Bool=>Dat.l 1 eStr r.1) hF))) (ai (Qh (fun r:List Za×Bool=>(.bool r.2:Value)) hF) trivial)) (finR (runL_ret hI0 (condT h4 (condT h5 rfl))) rfl)) (fun h5=>have _:32<=(IntKind.i64.wrap (((F38 line Zj).1.data.getD i40.toNat 0).toNat:Int))/\(IntKind.i64.wrap (((F38 line Zj).1.data.getD i40.toNat 0).toNat:Int))<=126:=Qd (notEF h5); ai (iok (i40+1) uu0) (bk10_0 line i0 m0 (i40+1) hl0 (runL_next hI0 (condT h4 (condF h5 rfl))) uu6))))) (fun h4 _=>have hD0_6:lX10_0 line=Lp.done i40:=runL_done hI0 (condF h4 rfl); kc41 (F38 line Zj).1 Zd uu0 uu1 uu1 uu1 (fun gv7 gv8=>ai (ai (uu0:(F41 (F38 line Zj).1 Zd).length<=1000000000) (by (intros; exact trivial):∀ k:Nat,k<(F41 (F38 line Zj).1 Zd).length->(fun (x0:Za)=>True) ((F41 (F38 line Zj).1 Zd).getD k default))) (ai (Imp.refl (.l 1 eStr (F41 (F38 line Zj).1 Zd))) (ai (Eq.refl (fsQ64 (fun (x0:Za)=>True) (fun (x0:Za)=>F42 x0))) (ai trivial (ai (fun k9:(decide ((((F41 (F38 line Zj).1 Zd).filter (fun x=>!((fun (x0:Za)=>F42 x0) x))).length:Int)>8))=false=>have _:¬ (((F41 (F38 line Zj).1 Zd).filter (fun x=>!((fun (x0:Za)=>F42 x0) x))).length:Int)>8:=Qv k9; (by (intros; exact trivial):∀ k:Nat,k<((F41 (F38 line Zj).1 Zd).filter (fun x=>!((fun (x0:Za)=>F42 x0) x))).length->(fun (x0:Za)=>True) (((F41 (F38 line Zj).1 Zd).filter (fun x=>!((fun (x0:Za)=>F42 x0) x))).getD k default))) (ai (fun k10:(decide ((((F41 (F38 line Zj).1 Zd).filter (fun x=>!((fun (x0:Za)=>F42 x0) x))).length:Int)>8))=false=>have _:¬ (((F41 (F38 line Zj).1 Zd).filter (fun x=>!((fun (x0:Za)=>F42 x0) x))).length:Int)>8:=Qv k10; (Imp.refl (.l 1 eStr ((F41 (F38 line Zj).1 Zd).filter (fun x=>!((fun (x0:Za)=>F42 x0) x)))))) (ai (fun k11:(decide ((((F41 (F38 line Zj).1 Zd).filter (fun x=>!((fun (x0:Za)=>F42 x0) x))).length:Int)>8))=false=>have _:¬ (((F41 (F38 line Zj).1 Zd).filter (fun x=>!((fun (x0:Za)=>F42 x0) x))).length:Int)>8:=Qv k11; (Eq.refl (fsQ64 (fun (x0:Za)=>True) (fun (x0:Za)=>F44 x0)))) (ai (fun k12:(decide ((((F41 (F38 line Zj).1 Zd).filter (fun x=>!((fun (x0:Za)=>F42 x0) x))).length:Int)>8))=false=>have _:¬ (((F41 (F38 line Zj).1 Zd).filter (fun x=>!((fun (x0:Za)=>F42 x0) x))).length:Int)>8:=Qv k12; trivial) (ifb (bif decide ((((F41 (F38 line Zj).1 Zd).filter (fun x=>!((fun (x0:Za)=>F42 x0) x))).length:Int)>8) then true else (((F41 (F38 line Zj).1 Zd).filter (fun x=>!((fun (x0:Za)=>F42 x0) x))).any (fun (x0:Za)=>F44 x0))) (fun h13=>(fun hF:(([]:List Za),false)=(F10 line)=>ai ((Imp.nil 1 eStr).trans (Imp.of_eq (Qh (fun r:List Za×Bool=>Dat.l 1 eStr r.1) hF))) (ai (Qh (fun r:List Za×Bool=>(.bool r.2:Value)) hF) trivial)) (finD hD0_6 (condT h13 rfl))) (fun h13=>have _:¬ (((F41 (F38 line Zj).1 Zd).filter (fun x=>!((fun (x0:Za)=>F42 x0) x))).length:Int)>8:=Qv (orF1 h13); fi10 line (((F41 (F38 line Zj).1 Zd).filter (fun x=>!((fun (x0:Za)=>F42 x0) x))),true) (finD hD0_6 (condF h13 rfl)))))))))))))) (i0.1-1) i0.2 (un10_0 line i0 hi0)))) uu3
end Go.Proofs.YtabmhncnckahfaaGreatDoor
namespace Go.Proofs.YtabmhncnckahfaaGreatDoor
open Go.RowKit
set_option maxRecDepth 100000
set_option linter.unusedVariables false
set_option linter.unusedSimpArgs false
def splitL (c:UInt8):List UInt8->List (List UInt8)
 | []=>[[]]
 | b :: l=>if b=c then [] :: splitL c l else (match splitL c l with | []=>[[b]] | w :: ws=>(b :: w) :: ws)
theorem splitL_none {c:UInt8}:∀ {l:List UInt8},c ∉ l->splitL c l=[l]
 | [],_=>rfl
 | b :: l,h=>by
  have hb:b≠c:=fun e=>h (by rw [e]; exact Qi)
  rw [splitL,if_neg hb,splitL_none (fun hm=>h (Qg _ hm))]
theorem splitL_app {c:UInt8} (b:List UInt8):∀ {a:List UInt8},c ∉ a->splitL c (a++c :: b)=a :: splitL c b
 | [],_=>by rw [R0,splitL,if_pos rfl]
 | x :: a,h=>by
  have hb:x≠c:=fun e=>h (by rw [e]; exact Qi)
  rw [Sv,splitL,if_neg hb,splitL_app b (fun hm=>h (Qg _ hm))]
theorem index_split (c:UInt8):∀ l:List UInt8,(Lib.index l [c]=-1/\c ∉ l)\/∃ a b,l=a++c :: b/\c ∉ a/\Lib.index l [c]=(a.length:Int)
 | []=>.inl ⟨rfl,by simp⟩
 | x :: l=>by
  rw [Lib.index_one,Lib.indexByte]
  by_cases hx:x=c
  ·subst hx
   exact .inr ⟨[],l,rfl,by simp,by simp⟩
  ·have hx':(x==c)=false:=by simpa using hx
   rw [hx']
   rcases index_split c l with ⟨h1,h2⟩ | ⟨a,b,h1,h2,h3⟩
   ·rw [Lib.index_one] at h1
    refine .inl ⟨by rw [h1]; rfl,fun hm=>?_⟩
    rcases Qt.1 hm with h | h
    ·exact hx h.symm
    ·exact h2 h
   ·rw [Lib.index_one] at h3
    refine .inr ⟨x :: a,b,by rw [h1]; rfl,fun hm=>?_,?_⟩
    ·rcases Qt.1 hm with h | h
     ·exact hx h.symm
     ·exact h2 h
    ·rw [h3]
     have:((a.length:Int)==-1)=false:=by
      rw [Qw]; omega
     simp only [this,Tx,Hi,Qx]
     omega
theorem ba_ext {a b:Za} (h:a.data.toList=b.data.toList):a=b:=by
 cases a; cases b
 simp only at h
 congr
 exact Gc h
theorem cut_cases (s:Za) (c:UInt8):(c ∉ s.data.toList/\cut3 s ⟨#[c]⟩=(s,Zf,false))\/∃ a b,s.data.toList=a++c :: b/\c ∉ a/\cut3 s ⟨#[c]⟩=(⟨a.toArray⟩,⟨b.toArray⟩,true):=by
 rcases index_split c s.data.toList with ⟨h1,h2⟩ | ⟨a,b,h1,h2,h3⟩
 ·refine .inl ⟨h2,?_⟩
  unfold cut3 Lib.cut
  rw [h1]
  rfl
 ·refine .inr ⟨a,b,h1,h2,?_⟩
  unfold cut3 Lib.cut
  rw [h3,if_pos uu0,h1]
  simp
theorem splitS_aux (c:UInt8):∀ (k:Nat) (s:Za),s.data.toList.count c=k->(Lib.splitB ⟨#[c]⟩ 0 k s).map (·.data.toList)=splitL c s.data.toList
 | 0,s,hk=>by
  rw [splitL_none (List.count_eq_zero.1 hk)]
  rfl
 | k+1,s,hk=>by
  rcases index_split c s.data.toList with ⟨h1,h2⟩ | ⟨a,b,h1,h2,h3⟩
  ·rw [List.count_eq_zero.2 h2] at hk; omega
  ·have hi:Lib.indexB s ⟨#[c]⟩=(a.length:Int):=h3
   unfold Lib.splitB
   rw [hi,if_neg (by rw [Sb]; omega),Rc,h1,splitL_app b h2]
   have hsz:s.size=a.length+(b.length+1):=by
    have:=Qh List.length h1
    rw [Qu,Qx,Q5] at this
    exact this
   have e1:(s.extract 0 (((a.length:Int)).toNat+0)).data.toList=a:=by
    rw [T9,Gt,Te,h1,Rr,T7,Nat.sub_zero,Ro]
    rw [Sn (Qn _),List.take_length]
   have e2:(s.extract (((a.length:Int)).toNat+(⟨#[c]⟩:Za).size) s.size).data.toList=b:=by
    have hc1:(⟨#[c]⟩:Za).size=1:=rfl
    rw [hc1]
    simp only [T9,Gt,Te,h1,Rr,hsz]
    rw [S6,Q3 uu0,R0]
    have e3:a.length+1-a.length=1:=by omega
    rw [e3,List.drop_succ_cons,Ro,Sp uu0]
   rw [e1,splitS_aux c k _ (by rw [e2]; rw [h1] at hk; simp [List.count_eq_zero.2 h2] at hk; omega),e2]
theorem splitS_one (s:Za) (c:UInt8):(splitS s ⟨#[c]⟩).map (·.data.toList)=splitL c s.data.toList:=by
 have:Lib.countB s ⟨#[c]⟩=s.data.toList.count c:=Lib.count_one c s.data.toList
 unfold splitS
 rw [this]
 exact splitS_aux c _ s rfl
def F45_s0 (line:Za):Int->Lp Int Za:=fun i40 =>
 bif (decide (i40<(line.size:Int))) then (bif (((line.data.getD i40.toNat 0).toNat:Int)==35) then (.ret (line.extract (0:Int).toNat i40.toNat)) else (.next (i40+1))) else (.done i40)
def F45 (line:Za):Za :=
 (runL (F45_s0 line) (((line.size:Int)-0).toNat+1) 0).fin (fun r=>r) (fun i40=>line)
abbrev lN45_0 (line:Za):Nat×Int:=((((line.size:Int)-0).toNat+1),0)
abbrev lI45_0 (line:Za) (m39:Nat) (i40:Int):Prop:=Int.toNat ((line.size:Int)-i40)<m39/\(0:Int)<=i40
abbrev lX45_0 (line:Za):Lp Int Za:=LpX (F45_s0 line) (lN45_0 line)
abbrev lJ45_0 (line:Za) (i:Nat×Int):Prop:=LpJ (F45_s0 line) (lN45_0 line) i (lI45_0 line i.1 i.2)
abbrev lH45_0 (line:Za) (i:Nat×Int) (m39:Nat) (i40:Int):Prop:=LpH (F45_s0 line) (lN45_0 line) i m39 i40 (lI45_0 line (m39+1) i40)
abbrev lE45_0 (line:Za) (i40:Int) (i40_:Int) (K39:Prop):Prop:=(Rf (.string line))/\((.int .i64 i40:Value)=.int .i64 i40_)/\K39
theorem un45_0 (line:Za) (i:Nat×Int) (h:lJ45_0 line i):lH45_0 line i (i.1-1) i.2:=⟨hd1 h.1 h.2.1,hd3 h.2.1,hd2 h.2.1,h.2.2⟩
theorem bk45_0 (line:Za) (i:Nat×Int) (m39:Nat) (i40:Int) (hl:m39<i.1) (e:runL (F45_s0 line) m39 i40=lX45_0 line) (h:lI45_0 line m39 i40):∃ j:Nat×Int,lE45_0 line i40 j.2 (lJ45_0 line j/\j.1<i.1):=⟨(m39,i40),rfl,rfl,⟨e,h⟩,hl⟩
theorem en45_0 (line:Za) (h:(0:Int)<=0):lE45_0 line 0 0 (lJ45_0 line (lN45_0 line)):=⟨rfl,rfl,rfl,Qr _,h⟩
def S45 (R:Za) (line:Za):Spec:=⟨[.r (.c (.v (.string line)))],.v (.string R),line.size<=1048576⟩
theorem ok45 (line:Za):(S45 (F45 line) line).ok Tryz.prog 45 :=
 fnG_ok mixed (fn:=Tryz.f45) (ct:=.seq .no (.seq (.seq .no (.blk (.loop (ι:=Nat×Int) (fun i=>(fun (i40:Int)=>(⟨[(0,some (.v (.string line))),(3,some (.v (vI i40)))],[],0⟩:St)) i.2) (lJ45_0 line) (fun i=>i.1) (lN45_0 line) (fun i=>(fun (i40:Int)=>(.seq (.seq .no (.cond .no .no)) (.seq (.blk (.seq .no (.cond (.seq .no .no) .no))) (.reg [(1,.bnd)])))) i.2)))) (.seq .no .no))) Tryz.func45 (fun (hpre0:line.size<=1048576)=>ai (en45_0 line uu0) (fun (i0:Nat×Int) (hi0:lJ45_0 line i0)=>(fun (m0:Nat) (i40:Int) (hh0:lH45_0 line i0 m0 i40)=>have hI0:=hh0.1; have hl0:=hh0.2.1; have _:=hh0.2.2.1; have _:=hh0.2.2.2; ifd (i40<(line.size:Int)) (fun h2 _=>ai (uu0:0<=i40/\i40<(line.size:Int)) (ife ((line.data.getD i40.toNat 0).toNat:Int) 35 (fun h3 _=>ai (uu0:0<=(0:Int)/\(0:Int)<=i40/\i40<=(line.size:Int)) (fiS (line.extract (0:Int).toNat i40.toNat) (F45 line) (finR (runL_ret hI0 (condT h2 (condT h3 rfl))) rfl))) (fun h3 _=>ai (iok (i40+1) uu0) (bk45_0 line i0 m0 (i40+1) hl0 (runL_next hI0 (condT h2 (condF h3 rfl))) uu6)))) (fun h2 _=>have hD0_4:lX45_0 line=Lp.done i40:=runL_done hI0 (condF h2 rfl); fiS line (F45 line) (finD hD0_4 rfl))) (i0.1-1) i0.2 (un45_0 line i0 hi0))) uu3
theorem getD_list (s:Za) (i:Nat):s.data.getD i 0=s.data.toList.getD i 0:=by
 simp [Array.getD,Qe]
 split <;> simp_all
theorem cut_at {s:Za} {c:UInt8} {i:Nat} (hi:i<s.size) (h:s.data.toList.getD i 0=c) (hn:∀ j,j<i->s.data.toList.getD j 0≠c):(cut3 s ⟨#[c]⟩).1=s.extract 0 i:=by
 have hl:s.data.toList.length=s.size:=Q5
 rcases cut_cases s c with ⟨h1,_⟩ | ⟨a,b,h1,h2,h3⟩
 ·exact absurd (by rw [<- h,Qe,Qj (by omega)]; exact He _) h1
 ·rw [h3]
  have hai:a.length=i:=by
   rcases Nat.lt_trichotomy a.length i with hlt | heq | hgt
   ·refine absurd ?_ (hn a.length hlt)
    rw [h1,Qe,Rq (Qn _)]
    simp
   ·exact heq
   ·rw [h1,Qe,Si hgt,Qj hgt] at h
    exact absurd (h ▸ He hgt) h2
  refine ba_ext ?_
  rw [T9,Gt,Te,h1,Ro,Nat.sub_zero,<- hai,Sn (Qn _),List.take_length]
theorem cut_not {s:Za} {c:UInt8} (hn:∀ j,j<s.size->s.data.toList.getD j 0≠c):(cut3 s ⟨#[c]⟩).1=s:=by
 have hl:s.data.toList.length=s.size:=Q5
 rcases cut_cases s c with ⟨_,h1⟩ | ⟨a,b,h1,h2,h3⟩
 ·rw [h1]
 ·refine absurd ?_ (hn a.length (by rw [<- hl,h1]; simp))
  rw [h1,Qe,Rq (Qn _)]
  simp
theorem u8_eq (b:UInt8) (k:UInt8):((b.toNat:Int)==(k.toNat:Int))=decide (b=k):=by
 rw [beqD]
 congr 1
 refine propext ⟨fun h=>?_,fun h=>by rw [h]⟩
 exact UInt8.toNat_inj.1 uu0
theorem strip_aux (s:Za):∀ (m i:Nat),i+m=s.size->(∀ j,j<i->s.data.toList.getD j 0≠35)->∀ fuel,m<fuel ->
  (runL (F45_s0 s) fuel (i:Int)).fin (fun r=>r) (fun _=>s)=(cut3 s Zj).1
 | m,i,_,_,0,hf=>absurd hf (R5 _)
 | 0,i,h,hn,fuel+1,_=>by
  have h1:decide ((i:Int)<(s.size:Int))=false:=Qq uu0
  simp only [runL,F45_s0,h1,Qb]
  rw [cut_not (fun j hj=>hn j uu0)]
  rfl
 | m+1,i,h,hn,fuel+1,hf=>by
  have h1:decide ((i:Int)<(s.size:Int))=true:=Qs uu0
  have h2:=u8_eq (s.data.toList.getD i 0) 35
  have h3:((35:UInt8).toNat:Int)=35:=rfl
  rw [h3] at h2
  simp only [runL,F45_s0,h1,Qc,Rr,getD_list,h2]
  by_cases hc:s.data.toList.getD i 0=35
  ·rw [Qs hc,Qc,cut_at uu0 hc hn]
   rfl
  ·rw [Qq hc,Qb]
   have:=strip_aux s m (i+1) uu0 (fun j hj=>by
    rcases Gm j i with h4 | h4
    ·exact hn j h4
    ·obtain rfl:j=i:=by omega
     exact hc) fuel uu0
   simpa using this
theorem as45 (line:Za):F45 line=((cut3 line Zj).1):=by
 unfold F45
 exact strip_aux line line.size 0 uu0 (fun j hj=>absurd hj (R5 _)) _ uu0
theorem cutA_le (line:Za):((cut3 line Zj).1.size:Int)<=line.size:=cut3_le1 _ _
theorem cutA_le2 (line:Za) (h:line.size<=1048576):(cut3 line Zj).1.size<=1048576:=by
 have:=cut3_le1 line Zj
 omega
theorem oa45 (line:Za):(S45 (cut3 line Zj).1 line).ok Tryz.prog 45:=by
 intro hp; have h:=ok45 line hp; rw [as45 line] at h; exact h
theorem kc45a (line:Za) {K_:Prop} (p0_:line.size<=1048576) (q0_:line.size<=1048576) (k_:(((cut3 line Zj).1.size:Int)<=line.size)->((cut3 line Zj).1.size<=1048576)->K_):(line.size<=1048576)/\(Imp (.v (.string line)) (.v (.string line)))/\K_:=⟨p0_,Imp.refl _,k_ (cutA_le line) (cutA_le2 line q0_)⟩
abbrev kh45a (line:Za):Hint true Tryz.prog:=.call 45 (S45 (cut3 line Zj).1 line) (oa45 line) none
def F11_s0 (line:Za):(List Za×List Int×Int)->Lp (List Za×List Int×Int) (List Za×Bool):=fun (out,word,i40) =>
 bif (decide (i40<=((cut3 line Zj).1.size:Int))) then (bif (bif decide (i40<((cut3 line Zj).1.size:Int)) then (bif decide ((((cut3 line Zj).1.data.getD i40.toNat 0).toNat:Int)<32) then true else decide ((((cut3 line Zj).1.data.getD i40.toNat 0).toNat:Int)>126)) else false) then (.ret (([]:List Za),false)) else (bif (bif decide (i40<((cut3 line Zj).1.size:Int)) then ((((cut3 line Zj).1.data.getD i40.toNat 0).toNat:Int) != 32) else false) then (bif (decide (((word++[(((cut3 line Zj).1.data.getD i40.toNat 0).toNat:Int)]).length:Int)>24)) then (.ret (([]:List Za),false)) else (.next (out,(word++[(((cut3 line Zj).1.data.getD i40.toNat 0).toNat:Int)]),(i40+1)))) else (bif (decide ((word.length:Int)>0)) then (bif (decide (((out++[(strOfB word)]).length:Int)>8)) then (.ret (([]:List Za),false)) else (.next ((out++[(strOfB word)]),([]:List Int),(i40+1)))) else (.next (out,word,(i40+1)))))) else (.done (out,word,i40))
def F11 (line:Za):List Za×Bool :=
 (runL (F11_s0 line) ((((cut3 line Zj).1.size:Int)-0+1).toNat+1) (([]:List Za),([]:List Int),0)).fin (fun r=>r) (fun (out,word,i40)=>(out,true))
abbrev lN11_0 (line:Za):Nat×(List Za×List Int×Int):=(((((cut3 line Zj).1.size:Int)-0+1).toNat+1),(([]:List Za),([]:List Int),0))
abbrev lI11_0 (line:Za) (m39:Nat) (out:List Za) (word:List Int) (i40:Int):Prop:=Int.toNat (((cut3 line Zj).1.size:Int)-i40+1)<m39/\word.length<=24/\out.length<=8/\(0:Int)<=i40
abbrev lX11_0 (line:Za):Lp (List Za×List Int×Int) (List Za×Bool):=LpX (F11_s0 line) (lN11_0 line)
abbrev lJ11_0 (line:Za) (i:Nat×(List Za×List Int×Int)):Prop:=LpJ (F11_s0 line) (lN11_0 line) i (lI11_0 line i.1 i.2.1 i.2.2.1 i.2.2.2)
abbrev lH11_0 (line:Za) (i:Nat×(List Za×List Int×Int)) (m39:Nat) (out:List Za) (word:List Int) (i40:Int):Prop:=LpH (F11_s0 line) (lN11_0 line) i m39 (out,word,i40) (lI11_0 line (m39+1) out word i40)
abbrev lE11_0 (line:Za) (out:List Za) (word:List Int) (i40:Int) (out_:List Za) (word_:List Int) (i40_:Int) (K39:Prop):Prop:=(Rf (.string (cut3 line Zj).1))/\((.int .i64 i40:Value)=.int .i64 i40_)/\(Imp (.l 1 eStr out) (.l 1 eStr out_))/\(Imp (.l 1 eByte word) (.l 1 eByte word_))/\K39
theorem un11_0 (line:Za) (i:Nat×(List Za×List Int×Int)) (h:lJ11_0 line i):lH11_0 line i (i.1-1) i.2.1 i.2.2.1 i.2.2.2:=⟨hd1 h.1 h.2.1,hd3 h.2.1,hd2 h.2.1,h.2.2⟩
theorem bk11_0 (line:Za) (i:Nat×(List Za×List Int×Int)) (m39:Nat) (out:List Za) (word:List Int) (i40:Int) (hl:m39<i.1) (e:runL (F11_s0 line) m39 (out,word,i40)=lX11_0 line) (h:lI11_0 line m39 out word i40):∃ j:Nat×(List Za×List Int×Int),lE11_0 line out word i40 j.2.1 j.2.2.1 j.2.2.2 (lJ11_0 line j/\j.1<i.1):=⟨(m39,(out,word,i40)),rfl,rfl,Imp.refl _,Imp.refl _,⟨e,h⟩,hl⟩
theorem en11_0 (line:Za) (h:([]:List Int).length<=24/\([]:List Za).length<=8/\(0:Int)<=0):lE11_0 line ([]:List Za) ([]:List Int) 0 ([]:List Za) ([]:List Int) 0 (lJ11_0 line (lN11_0 line)):=⟨rfl,rfl,Imp.refl _,Imp.refl _,rfl,Qr _,h⟩
theorem fi11 (line:Za) (r:List Za×Bool) (hF:r=(F11 line)):(Imp (.l 1 eStr r.1) (.l 1 eStr (F11 line).1))/\((.bool r.2:Value)=.bool (F11 line).2)/\True:=by cases hF; exact ⟨Imp.refl _,rfl,trivial⟩
def S11 (line:Za):Spec:=⟨[.r (.c (.v (.string line)))],.tu [.ow (.l 1 eStr (F11 line).1),.v (.bool (F11 line).2)],line.size<=1048576⟩
theorem ok11 (line:Za):(S11 line).ok Tryz.prog 11 :=
 fnG_ok mixed (fn:=Tryz.f11) (ct:=.seq .no (.seq (.reg [(1,kh45a line)]) (.seq (.reg [(0,.dat (.l 1 eStr ([]:List Za)))]) (.seq (.reg [(0,.dat (.l 1 eByte ([]:List Int)))]) (.seq (.seqk [(5,0),(6,0)] .no (.blk (.loop (ι:=Nat×(List Za×List Int×Int)) (fun i=>(fun (out:List Za) (word:List Int) (i40:Int)=>(⟨[(4,some (.v (.string (cut3 line Zj).1))),(5,some (.h 0 0)),(6,some (.h 1 0)),(7,some (.v (vI i40)))],[(0,some (.own 0 (.l 1 eStr out))),(1,some (.own 1 (.l 1 eByte word)))],2⟩:St)) i.2.1 i.2.2.1 i.2.2.2) (lJ11_0 line) (fun i=>i.1) (lN11_0 line) (fun i=>(fun (out:List Za) (word:List Int) (i40:Int)=>(.seq (.seq .no (.cond .no .no)) (.seq (.blk (.seq (.seq .no (.cond (.seq (.reg [(0,.dat (.l 1 eStr ([]:List Za)))]) .no) .no)) (.seq (.seq .no (.cond (.seq (.reg [(5,.dat (.l 1 eByte (word++[(((cut3 line Zj).1.data.getD i40.toNat 0).toNat:Int)])))]) (.seq (.seq .no (.cond (.seq (.reg [(0,.dat (.l 1 eStr ([]:List Za)))]) .no) .no)) .no)) .no)) (.seq .no (.cond (.seq (.reg [(2,.str (strOfB word)),(4,.dat (.l 1 eStr (out++[(strOfB word)])))]) (.seq (.reg [(0,.dat (.l 1 eByte ([]:List Int)))]) (.seq .no (.cond (.seq (.reg [(0,.dat (.l 1 eStr ([]:List Za)))]) .no) .no)))) .no))))) (.reg [(1,.bnd)])))) i.2.1 i.2.2.1 i.2.2.2)))) (.seq .no .no)))))) Tryz.func11 (fun (hpre0:line.size<=1048576)=>kc45a line uu2 uu2 (fun gv1 gv2=>ai (bokr 1 eStr ([]:List Za) fun _=>rfl) (ai (bokr 1 eByte ([]:List Int) fun _=>rfl) (kn ([]:List Za) fun _=>kn ([]:List Int) fun _=>ai (en11_0 line uu25) (fun (i0:Nat×(List Za×List Int×Int)) (hi0:lJ11_0 line i0)=>(fun (m0:Nat) (out:List Za) (word:List Int) (i40:Int) (hh0:lH11_0 line i0 m0 out word i40)=>have hI0:=hh0.1; have hl0:=hh0.2.1; have _:=hh0.2.2.1; have _:=hh0.2.2.2; ifd (i40<=((cut3 line Zj).1.size:Int)) (fun h4 _=>ai (fun k5:(decide (i40<((cut3 line Zj).1.size:Int)))=true=>have _:i40<((cut3 line Zj).1.size:Int):=Qd k5; (uu2:0<=i40/\i40<((cut3 line Zj).1.size:Int))) (ai (fun k7:(decide ((((cut3 line Zj).1.data.getD i40.toNat 0).toNat:Int)<32))=false=>have _:¬ (((cut3 line Zj).1.data.getD i40.toNat 0).toNat:Int)<32:=Qv k7; (fun k6:(decide (i40<((cut3 line Zj).1.size:Int)))=true=>have _:i40<((cut3 line Zj).1.size:Int):=Qd k6; (uu2:0<=i40/\i40<((cut3 line Zj).1.size:Int)))) (ifb (bif decide (i40<((cut3 line Zj).1.size:Int)) then (bif decide ((((cut3 line Zj).1.data.getD i40.toNat 0).toNat:Int)<32) then true else decide ((((cut3 line Zj).1.data.getD i40.toNat 0).toNat:Int)>126)) else false) (fun h8=>have _:i40<((cut3 line Zj).1.size:Int):=Qd (andT1 h8); ai (bokr 1 eStr ([]:List Za) fun _=>rfl) (fi11 line (([]:List Za),false) (finR (runL_ret hI0 (condT h4 (condT h8 rfl))) rfl))) (fun h8=>ai (fun k9:(decide (i40<((cut3 line Zj).1.size:Int)))=true=>have _:i40<((cut3 line Zj).1.size:Int):=Qd k9; (uu2:0<=i40/\i40<((cut3 line Zj).1.size:Int))) (ifb (bif decide (i40<((cut3 line Zj).1.size:Int)) then ((((cut3 line Zj).1.data.getD i40.toNat 0).toNat:Int) != 32) else false) (fun h10=>have _:i40<((cut3 line Zj).1.size:Int):=Qd (andT1 h10); have _:¬ (((cut3 line Zj).1.data.getD i40.toNat 0).toNat:Int)=32:=bneT (andT2 h10); ai (uu2:0<=i40/\i40<((cut3 line Zj).1.size:Int)) (ai (AppA.mk eByte word [(((cut3 line Zj).1.data.getD i40.toNat 0).toNat:Int)] (Imp.refl (.l 1 eByte word)) rfl (by exact ai (Imp.u8 (by first | exact u8a _ | exact u8m _ | exact u8w _)) trivial) (fun _=>rfl):AppA (.l 1 eByte word) 1 1 [.v (.int .u8 (((cut3 line Zj).1.data.getD i40.toNat 0).toNat:Int))] (.l 1 eByte (word++[(((cut3 line Zj).1.data.getD i40.toNat 0).toNat:Int)]))) (ai (uu17:(word++[(((cut3 line Zj).1.data.getD i40.toNat 0).toNat:Int)]).length*1<=140737488355328) (ifd (((word++[(((cut3 line Zj).1.data.getD i40.toNat 0).toNat:Int)]).length:Int)>24) (fun h11 _=>ai (bokr 1 eStr ([]:List Za) fun _=>rfl) (fi11 line (([]:List Za),false) (finR (runL_ret hI0 (condT h4 (condF h8 (condT h10 (condT h11 rfl))))) rfl))) (fun h11 _=>ai (iok (i40+1) uu2) (bk11_0 line i0 m0 out (word++[(((cut3 line Zj).1.data.getD i40.toNat 0).toNat:Int)]) (i40+1) hl0 (runL_next hI0 (condT h4 (condF h8 (condT h10 (condF h11 rfl))))) uu52)))))) (fun h10=>ifd ((word.length:Int)>0) (fun h12 _=>ai (ConvOK.mk eByte word (fun x=>x%256) (fun _=>rfl):ConvOK (.l 1 eByte word) (strOfB word)) (ai (appr 1 eStr out [(strOfB word)] fun _=>rfl) (ai (uu17:(out++[(strOfB word)]).length*16<=140737488355328) (ai (bokr 1 eByte ([]:List Int) fun _=>rfl) (ifd (((out++[(strOfB word)]).length:Int)>8) (fun h13 _=>ai (bokr 1 eStr ([]:List Za) fun _=>rfl) (fi11 line (([]:List Za),false) (finR (runL_ret hI0 (condT h4 (condF h8 (condF h10 (condT h12 (condT h13 rfl)))))) rfl))) (fun h13 _=>ai (iok (i40+1) uu2) (bk11_0 line i0 m0 (out++[(strOfB word)]) ([]:List Int) (i40+1) hl0 (runL_next hI0 (condT h4 (condF h8 (condF h10 (condT h12 (condF h13 rfl)))))) uu52))))))) (fun h12 _=>ai (iok (i40+1) uu2) (bk11_0 line i0 m0 out word (i40+1) hl0 (runL_next hI0 (condT h4 (condF h8 (condF h10 (condF h12 rfl))))) uu52)))))))) (fun h4 _=>have hD0_14:lX11_0 line=Lp.done (out,word,i40):=runL_done hI0 (condF h4 rfl); fi11 line (out,true) (finD hD0_14 rfl))) (i0.1-1) i0.2.1 i0.2.2.1 i0.2.2.2 (un11_0 line i0 hi0)))))) uu3
def wordsL (l:List UInt8):List (List UInt8):=(splitL 32 l).filter fun w=>!w.isEmpty
def okB (b:UInt8):Bool:=decide (32<=b.toNat/\b.toNat<=126)
def mkB (l:List UInt8):Za:=⟨l.toArray⟩
theorem mkB_data (l:List UInt8):(mkB l).data.toList=l:=rfl
theorem mkB_self (s:Za):mkB s.data.toList=s:=ba_ext rfl
def fitW (ws:List (List UInt8)):Bool:=decide (ws.length<=8)&&ws.all fun w=>decide (w.length<=24)
def wordsOf (l:List UInt8):List Za×Bool:=bif l.all okB&&fitW (wordsL l) then ((wordsL l).map mkB,true) else ([],false)
def intsB (w:List UInt8):List Int:=w.map fun b=>(b.toNat:Int)
theorem intsB_len (w:List UInt8):(intsB w).length=w.length:=by simp [intsB]
theorem strOfB_ints (w:List UInt8):strOfB (intsB w)=mkB w:=by
 refine ba_ext ?_
 show ((List.map (fun x=>x%256) (intsB w)).map fun n=>UInt8.ofNat n.toNat)=w
 rw [Gp,intsB,Gp]
 refine (T6 (g:=id) fun b _=>?_).trans (Hl w)
 have h:=b.toNat_lt
 have e:((b.toNat:Int)%256).toNat=b.toNat:=by omega
 simp only [Function.comp_apply,e,id]
 exact UInt8.ofNat_toNat
def specW:List UInt8->List Za->List UInt8->List Za×Bool
 | [],out,w=>if w=[] then (out,true) else if out.length+1>8 then ([],false) else (out++[mkB w],true)
 | b :: l,out,w=>if okB b=false then ([],false) else if b=32 then (if w=[] then specW l out w else if out.length+1>8 then ([],false) else specW l (out++[mkB w]) [])
  else if w.length+1>24 then ([],false) else specW l out (w++[b])
theorem splitL_head (c:UInt8):∀ (l w:List UInt8),c ∉ w->∃ p ps,splitL c (w++l)=(w++p) :: ps
 | [],w,h=>⟨[],[],by rw [Su,splitL_none h]⟩
 | b :: l,w,h=>by
  by_cases hb:b=c
  ·subst hb
   exact ⟨[],splitL b l,by rw [splitL_app l h,Su]⟩
  ·obtain ⟨p,ps,e⟩:=splitL_head c l (w++[b]) (fun hm=>by
    rcases Q4.1 hm with h1 | h1
    ·exact h h1
    ·exact hb (Qy.1 h1).symm)
   exact ⟨b :: p,ps,by rw [<- Tw,<- Q1,e,Q1]; rfl⟩
theorem specW_eq:∀ (l:List UInt8) (out:List Za) (w:List UInt8),(32:UInt8) ∉ w->w.length<=24->out.length<=8 ->
  specW l out w=bif l.all okB&&(decide (out.length+(wordsL (w++l)).length<=8)&&(wordsL (w++l)).all fun x=>decide (x.length<=24)) then (out++(wordsL (w++l)).map mkB,true) else ([],false)
 | [],out,w,hw,h24,h8=>by
  have e:wordsL (w++[])=if w=[] then [] else [w]:=by
   rw [Su,wordsL,splitL_none hw]
   cases w <;> rfl
  rw [e,specW]
  by_cases h:w=[]
  ·rw [if_pos h,if_pos h]
   have e2:decide (out.length+([]:List (List UInt8)).length<=8)=true:=Qs (by simpa using h8)
   rw [e2,Hd,Su]; rfl
  ·rw [if_neg h,if_neg h]
   by_cases h1:out.length+1>8
   ·rw [if_pos h1]
    have:decide (out.length+[w].length<=8)=false:=Qq (by simp only [Qx,Rs]; omega)
    rw [this]; rfl
   ·rw [if_neg h1]
    have:decide (out.length+[w].length<=8)=true:=Qs (by simp only [Qx,Rs]; omega)
    rw [this,Rz,Qs h24]; rfl
 | b :: l,out,w,hw,h24,h8=>by
  rw [specW,Rz]
  cases hb:okB b with
  | false=>rw [if_pos rfl]; rfl
  | true =>
   rw [if_neg uu14,Sm]
   by_cases h32:b=32
   ·subst h32
    rw [if_pos rfl]
    have e:wordsL (w++32 :: l)=if w=[] then wordsL l else w :: wordsL l:=by
     rw [wordsL,splitL_app l hw,Gx]
     cases w <;> rfl
    rw [e]
    by_cases h:w=[]
    ·rw [if_pos h,if_pos h,h,specW_eq l out [] uu14 uu14 h8,R0]
    ·rw [if_neg h,if_neg h]
     by_cases h1:out.length+1>8
     ·rw [if_pos h1]
      have:decide (out.length+(w :: wordsL l).length<=8)=false:=Qq uu38
      rw [this,S3,Sj]; rfl
     ·rw [if_neg h1,specW_eq l (out++[mkB w]) [] uu14 uu14 uu53,R0]
      have e1:(out++[mkB w]).length+(wordsL l).length=out.length+(w :: wordsL l).length:=by simp only [Qu,Qx,Rs]; omega
      rw [e1,Rz,Qs h24,Sm,Rc,Q1]
      rfl
   ·rw [if_neg h32]
    have hw':(32:UInt8) ∉ w++[b]:=fun hm=>by
     rcases Q4.1 hm with h1 | h1
     ·exact hw h1
     ·exact h32 (Qy.1 h1).symm
    have e2:w++b :: l=(w++[b])++l:=by rw [Q1]; rfl
    by_cases h1:w.length+1>24
    ·rw [if_pos h1]
     obtain ⟨p,ps,e⟩:=splitL_head 32 l (w++[b]) hw'
     have e3:(wordsL (w++b :: l)).all (fun x=>decide (x.length<=24))=false:=by
      rw [e2,wordsL,e,Gx]
      have hne:(!((w++[b])++p).isEmpty)=true:=by cases w <;> rfl
      rw [if_pos hne,Rz,Qq uu53]
      rfl
     rw [e3,Sj,Sj]; rfl
    ·rw [if_neg h1,specW_eq l out (w++[b]) hw' uu53 h8,e2]
theorem runL_n {σ ρ:Type} {step:σ->Lp σ ρ} {s s':σ} (m:Nat) (h:step s=.next s'):runL step (m+1) s=runL step m s':=by
 rw [runL,h]
theorem runL_d {σ ρ:Type} {step:σ->Lp σ ρ} {s s':σ} (m:Nat) (h:step s=.done s'):runL step (m+1) s=.done s':=by
 rw [runL,h]
theorem runL_r {σ ρ:Type} {step:σ->Lp σ ρ} {s:σ} {r:ρ} (m:Nat) (h:step s=.ret r):runL step (m+1) s=.ret r:=by
 rw [runL,h]
theorem len_gt0 {w:List UInt8} (hw:¬ w=[]):decide ((w.length:Int)>0)=true:=by
 cases w with
 | nil=>exact absurd rfl hw
 | cons a w=>exact Qs uu38
theorem spec_end (line s:Za) (hs:(cut3 line Zj).1=s) (out:List Za) (w:List UInt8):F11_s0 line (out,intsB w,(s.size:Int)) =
  if w=[] then .next (out,intsB [],(s.size:Int)+1) else if out.length+1>8 then .ret ([],false) else .next (out++[mkB w],intsB [],(s.size:Int)+1):=by
 have h0:decide ((s.size:Int)<=(s.size:Int))=true:=Qs uu0
 have h1:decide ((s.size:Int)<(s.size:Int))=false:=Qq uu0
 simp only [F11_s0,hs,h0,h1,Qc,Qb,strOfB_ints,intsB_len,Qu,Qx,Rs]
 by_cases hw:w=[]
 ·subst hw; rfl
 ·rw [len_gt0 hw,if_neg hw,Qc]
  by_cases h8:out.length+1>8
  ·have:decide (((out.length+(0+1):Nat):Int)>8)=true:=Qs uu0
   rw [this,if_pos h8]; rfl
  ·have:decide (((out.length+(0+1):Nat):Int)>8)=false:=Qq uu0
   rw [this,if_neg h8]; rfl
theorem spec_out (line s:Za) (hs:(cut3 line Zj).1=s) (out:List Za) (w:List Int):F11_s0 line (out,w,(s.size:Int)+1)=.done (out,w,(s.size:Int)+1):=by
 have h0:decide ((s.size:Int)+1<=(s.size:Int))=false:=Qq uu0
 simp only [F11_s0,hs,h0,Qb]
theorem spec_mid (line s:Za) (hs:(cut3 line Zj).1=s) (out:List Za) (w:List UInt8) (i:Nat) (hi:i<s.size) (b:UInt8) (hb:s.data.toList.getD i 0=b):F11_s0 line (out,intsB w,(i:Int)) =
  if okB b=false then .ret ([],false) else if b=32 then (if w=[] then .next (out,intsB [],(i:Int)+1) else if out.length+1>8 then .ret ([],false) else .next (out++[mkB w],intsB [],(i:Int)+1))
  else if w.length+1>24 then .ret ([],false) else .next (out,intsB (w++[b]),(i:Int)+1):=by
 have h0:decide ((i:Int)<=(s.size:Int))=true:=Qs uu0
 have h1:decide ((i:Int)<(s.size:Int))=true:=Qs uu0
 simp only [F11_s0,hs,h0,h1,Qc,Rr,getD_list,hb]
 have hok:(bif decide ((b.toNat:Int)<32) then true else decide ((b.toNat:Int)>126))=!okB b:=by
  unfold okB
  by_cases h3:(b.toNat:Int)<32
  ·rw [Qs h3,Qc,Qq uu0]; rfl
  ·rw [Qq h3,Qb]
   by_cases h4:(b.toNat:Int)>126
   ·rw [Qs h4,Qq uu0]; rfl
   ·rw [Qq h4,Qs uu0]; rfl
 rw [hok]
 cases okB b with
 | false=>rfl
 | true =>
  have h32:=u8_eq b 32
  have h33:((32:UInt8).toNat:Int)=32:=rfl
  rw [h33] at h32
  have h34:((b.toNat:Int) != 32)=!decide (b=32):=by rw [bne,h32]
  rw [h34]
  simp only [Sc,Qb,Bool.true_eq_false,Hi]
  by_cases hc:b=32
  ·rw [Qs hc,if_pos hc]
   simp only [Sc,Qb,strOfB_ints,intsB_len,Qu,Qx,Rs]
   by_cases hw:w=[]
   ·subst hw; rfl
   ·rw [len_gt0 hw,if_neg hw,Qc]
    by_cases h8:out.length+1>8
    ·have:decide (((out.length+(0+1):Nat):Int)>8)=true:=Qs uu0
     rw [this,if_pos h8]; rfl
    ·have:decide (((out.length+(0+1):Nat):Int)>8)=false:=Qq uu0
     rw [this,if_neg h8]; rfl
  ·rw [Qq hc,if_neg hc]
   simp only [Tb,Qc,intsB_len,Qu,Qx,Rs]
   by_cases h24:w.length+1>24
   ·have:decide (((w.length+(0+1):Nat):Int)>24)=true:=Qs uu0
    rw [this,if_pos h24]; rfl
   ·have:decide (((w.length+(0+1):Nat):Int)>24)=false:=Qq uu0
    rw [this,if_neg h24,Qb]
    have e:intsB (w++[b])=intsB w++[(b.toNat:Int)]:=by simp [intsB]
    rw [e]
theorem spec_loop (line s:Za) (hs:(cut3 line Zj).1=s):∀ (m i:Nat) (out:List Za) (w:List UInt8),i+m=s.size->∀ fuel,m+1<fuel ->
  (runL (F11_s0 line) fuel (out,intsB w,(i:Int))).fin (fun r=>r) (fun (out,word,i40)=>(out,true))=specW (s.data.toList.drop i) out w
 | m,i,out,w,_,0,hf=>absurd hf (R5 _)
 | 0,i,out,w,h,fuel+1,hf=>by
  have hl:s.data.toList.length=s.size:=Q5
  obtain rfl:i=s.size:=by omega
  obtain ⟨fuel,rfl⟩:∃ f,fuel=f+1:=⟨fuel-1,by omega⟩
  rw [Q3 uu0,specW]
  have h1:=spec_end line s hs out w
  by_cases hw:w=[]
  ·rw [if_pos hw] at h1 ⊢
   rw [runL_n _ h1,runL_d _ (spec_out line s hs _ _)]; rfl
  ·rw [if_neg hw] at h1 ⊢
   by_cases h8:out.length+1>8
   ·rw [if_pos h8] at h1 ⊢
    rw [runL_r _ h1]; rfl
   ·rw [if_neg h8] at h1 ⊢
    rw [runL_n _ h1,runL_d _ (spec_out line s hs _ _)]; rfl
 | m+1,i,out,w,h,fuel+1,hf=>by
  have hl:s.data.toList.length=s.size:=Q5
  have hb:s.data.toList.drop i=s.data.toList.getD i 0 :: s.data.toList.drop (i+1):=by
   rw [Rd uu0,Qe,Qj uu0]; rfl
  rw [hb,specW]
  have h1:=spec_mid line s hs out w i uu0 _ rfl
  generalize s.data.toList.getD i 0=b at h1 ⊢
  have ei:((i:Int)+1)=((i+1:Nat):Int):=rfl
  rw [ei] at h1
  by_cases hok:okB b=false
  ·rw [if_pos hok] at h1 ⊢
   rw [runL_r _ h1]; rfl
  ·rw [if_neg hok] at h1 ⊢
   by_cases hc:b=32
   ·rw [if_pos hc] at h1 ⊢
    by_cases hw:w=[]
    ·rw [if_pos hw] at h1 ⊢
     rw [runL_n _ h1,hw]
     exact spec_loop line s hs m (i+1) out [] uu0 fuel uu0
    ·rw [if_neg hw] at h1 ⊢
     by_cases h8:out.length+1>8
     ·rw [if_pos h8] at h1 ⊢
      rw [runL_r _ h1]; rfl
     ·rw [if_neg h8] at h1 ⊢
      rw [runL_n _ h1]
      exact spec_loop line s hs m (i+1) (out++[mkB w]) [] uu0 fuel uu0
   ·rw [if_neg hc] at h1 ⊢
    by_cases h24:w.length+1>24
    ·rw [if_pos h24] at h1 ⊢
     rw [runL_r _ h1]; rfl
    ·rw [if_neg h24] at h1 ⊢
     rw [runL_n _ h1]
     exact spec_loop line s hs m (i+1) out (w++[b]) uu0 fuel uu0
theorem spec_words (line:Za):F11 line=wordsOf (cut3 line Zj).1.data.toList:=by
 unfold F11
 have:=spec_loop line _ rfl (cut3 line Zj).1.size 0 [] [] uu0 (Int.toNat (((cut3 line Zj).1.size:Int)-0+1)+1) uu0
 rw [Ro,specW_eq _ _ _ uu14 uu14 uu14,R0,R0,Rs,R4] at this
 exact this
theorem wrap_u8 (b:UInt8):IntKind.i64.wrap ((b.toNat:Int))=(b.toNat:Int):=by
 have h:=b.toNat_lt
 exact wrap_of uu0 uu0
theorem impl_loop (line s:Za) (hs:(cut3 line Zj).1=s) {τ:Type} (f:List Za×Bool->τ) (g:Int->τ) (y:τ) (hg:∀ i,g i=y):∀ (m i:Nat),i+m=s.size->∀ fuel,m<fuel ->
  (runL (F10_s0 line) fuel (i:Int)).fin f g=bif (s.data.toList.drop i).all okB then y else f ([],false)
 | m,i,_,0,hf=>absurd hf (R5 _)
 | 0,i,h,fuel+1,hf=>by
  have hl:s.data.toList.length=s.size:=Q5
  have h1:decide ((i:Int)<(s.size:Int))=false:=Qq uu0
  have hst:F10_s0 line (i:Int)=.done (i:Int):=by
   simp only [F10_s0,F38,hs,h1,Qb]
  rw [Q3 uu0,runL_d _ hst]
  exact hg _
 | m+1,i,h,fuel+1,hf=>by
  have hl:s.data.toList.length=s.size:=Q5
  have h1:decide ((i:Int)<(s.size:Int))=true:=Qs uu0
  have hb:s.data.toList.drop i=s.data.toList.getD i 0 :: s.data.toList.drop (i+1):=by
   rw [Rd uu0,Qe,Qj uu0]; rfl
  have hst:F10_s0 line (i:Int)=if okB (s.data.toList.getD i 0)=false then .ret ([],false) else .next ((i+1:Nat):Int):=by
   simp only [F10_s0,F38,hs,h1,Qc,Rr,getD_list,wrap_u8]
   generalize s.data.toList.getD i 0=b
   have e:decide ((32:Int)<=(b.toNat:Int)/\(b.toNat:Int)<=126)=okB b:=by
    unfold okB
    congr 1
    exact propext ⟨fun h=>by omega,fun h=>by omega⟩
   rw [e]
   cases okB b <;> rfl
  rw [hb,Rz]
  generalize s.data.toList.getD i 0=b at hst ⊢
  by_cases hok:okB b=false
  ·rw [if_pos hok] at hst
   rw [runL_r _ hst,hok]; rfl
  ·rw [if_neg hok] at hst
   rw [runL_n _ hst,impl_loop line s hs f g y hg m (i+1) uu0 fuel uu0]
   cases ho:okB b with
   | false=>exact absurd ho hok
   | true=>rw [Sm]
theorem isE (x:Za):(x.toList==Zf.toList)=x.data.toList.isEmpty:=by
 rw [byteToList,byteToList]
 cases x.data.toList <;> rfl
theorem words_filter (s:Za):(splitS s Zd).filter (fun x=>!(x.toList==Zf.toList))=(wordsL s.data.toList).map mkB:=by
 rw [wordsL,<- splitS_one,Hk,Gp]
 have e:(fun x:Za=>!(x.toList==Zf.toList))=((fun w:List UInt8=>!w.isEmpty) ∘ fun x:Za=>x.data.toList):=by
  funext x
  rw [isE]; rfl
 rw [e]
 exact ((T6 fun x _=>mkB_self x).trans (Hl _)).symm
theorem any_long:∀ ws:List (List UInt8),ws.any ((fun x:Za=>decide ((x.size:Int)>24)) ∘ mkB)=!ws.all fun w=>decide (w.length<=24)
 | []=>rfl
 | w :: ws=>by
  rw [Ga,Rz,any_long ws,Bool.not_and]
  congr 1
  have:(mkB w).size=w.length:=rfl
  show decide (((mkB w).size:Int)>24)=_
  rw [this]
  by_cases h:w.length<=24
  ·rw [Qs h,Qq uu0]; rfl
  ·rw [Qq h,Qs uu0]; rfl
theorem impl_words (line:Za):F10 line=wordsOf (cut3 line Zj).1.data.toList:=by
 generalize hs:(cut3 line Zj).1=s
 unfold F10
 have h1:=impl_loop line s hs (fun r=>r) (fun _=>bif (bif decide ((((wordsL s.data.toList).map mkB).length:Int)>8) then true else ((wordsL s.data.toList).map mkB).any fun x=>decide ((x.size:Int)>24)) then (([]:List Za),false) else ((wordsL s.data.toList).map mkB,true)) _ (fun _=>rfl) s.size 0 uu0 (Int.toNat ((s.size:Int)-0)+1) uu0
 have hf:(splitS s Zd).filter (fun x=>!F42 x)=(wordsL s.data.toList).map mkB:=words_filter s
 simp only [F38,F41,hs,hf]
 refine h1.trans ?_
 rw [Ro,wordsOf,fitW,Sg,Hg]
 have e1:decide (((wordsL s.data.toList).length:Int)>8)=!decide ((wordsL s.data.toList).length<=8):=by
  by_cases h:(wordsL s.data.toList).length<=8
  ·rw [Qs h,Qq uu0]; rfl
  ·rw [Qq h,Qs uu0]; rfl
 rw [e1,any_long]
 cases (s.data.toList.all okB) <;> cases decide ((wordsL s.data.toList).length<=8) <;> cases ((wordsL s.data.toList).all fun w=>decide (w.length<=24)) <;> rfl
theorem words_same (line:Za):F10 line=F11 line:=(impl_words line).trans (spec_words line).symm
theorem wordsOf_len (l:List UInt8):(wordsOf l).1.length<=8:=by
 unfold wordsOf fitW
 by_cases h:(wordsL l).length<=8
 ·cases l.all okB <;> cases ((wordsL l).all fun w=>decide (w.length<=24)) <;> simp [h]
 ·rw [Qq h,S3,Sj]
  exact Re _
theorem words_len (line:Za):(F10 line).1.length<=8:=by
 rw [impl_words]; exact wordsOf_len _
def F85_s0 (s:Za) (at':Int):(List Za×Int×Int)->Lp (List Za×Int×Int) (List Za):=fun (out1,from'1,i40) =>
 bif (decide (i40<(s.size:Int))) then (bif (((s.data.getD i40.toNat 0).toNat:Int)==(at'%256)) then (.next ((out1++[(s.extract (Int.toNat from'1) i40.toNat)]),(i40+1),(i40+1))) else (.next (out1,from'1,(i40+1)))) else (.done (out1,from'1,i40))
def F85_j0 (s:Za) (at':Int):Lp (List Za×Int) (List Za) :=
 (runL (F85_s0 s at') (((s.size:Int)-0).toNat+1) (([]:List Za),0,0)).fin Lp.ret (fun (out1,from'1,i40)=>.done (out1,from'1))
def F85 (s:Za) (at':Int):List Za :=
 (F85_j0 s at').fin (fun r=>r) (fun (out,from')=>(out++[(s.extract from'.toNat (s.size:Int).toNat)]))
abbrev lN85_0 (s:Za):Nat×(List Za×Int×Int):=((((s.size:Int)-0).toNat+1),(([]:List Za),0,0))
abbrev lI85_0 (s:Za) (m39:Nat) (out1:List Za) (from'1:Int) (i40:Int):Prop:=Int.toNat ((s.size:Int)-i40)<m39/\(0:Int)<=from'1/\(from'1:Int)<=i40/\(out1.length:Int)<=i40/\i40<=(s.size:Int)/\(0:Int)<=from'1/\(0:Int)<=i40
abbrev lX85_0 (s:Za) (at':Int):Lp (List Za×Int×Int) (List Za):=LpX (F85_s0 s at') (lN85_0 s)
abbrev lJ85_0 (s:Za) (at':Int) (i:Nat×(List Za×Int×Int)):Prop:=LpJ (F85_s0 s at') (lN85_0 s) i (lI85_0 s i.1 i.2.1 i.2.2.1 i.2.2.2)
abbrev lH85_0 (s:Za) (at':Int) (i:Nat×(List Za×Int×Int)) (m39:Nat) (out1:List Za) (from'1:Int) (i40:Int):Prop:=LpH (F85_s0 s at') (lN85_0 s) i m39 (out1,from'1,i40) (lI85_0 s (m39+1) out1 from'1 i40)
abbrev lE85_0 (s:Za) (at':Int) (out1:List Za) (from'1:Int) (i40:Int) (out1_:List Za) (from'1_:Int) (i40_:Int) (K39:Prop):Prop:=(Rf (.string s))/\(Rf (.int .u8 (at'%256)))/\((.int .i64 from'1:Value)=.int .i64 from'1_)/\((.int .i64 i40:Value)=.int .i64 i40_)/\(Imp (.l 1 eStr out1) (.l 1 eStr out1_))/\K39
theorem un85_0 (s:Za) (at':Int) (i:Nat×(List Za×Int×Int)) (h:lJ85_0 s at' i):lH85_0 s at' i (i.1-1) i.2.1 i.2.2.1 i.2.2.2:=⟨hd1 h.1 h.2.1,hd3 h.2.1,hd2 h.2.1,h.2.2⟩
theorem bk85_0 (s:Za) (at':Int) (i:Nat×(List Za×Int×Int)) (m39:Nat) (out1:List Za) (from'1:Int) (i40:Int) (hl:m39<i.1) (e:runL (F85_s0 s at') m39 (out1,from'1,i40)=lX85_0 s at') (h:lI85_0 s m39 out1 from'1 i40):∃ j:Nat×(List Za×Int×Int),lE85_0 s at' out1 from'1 i40 j.2.1 j.2.2.1 j.2.2.2 (lJ85_0 s at' j/\j.1<i.1):=⟨(m39,(out1,from'1,i40)),rfl,rfl,rfl,rfl,Imp.refl _,⟨e,h⟩,hl⟩
theorem en85_0 (s:Za) (at':Int) (h:(0:Int)<=0/\(0:Int)<=0/\(([]:List Za).length:Int)<=0/\0<=(s.size:Int)/\(0:Int)<=0/\(0:Int)<=0):lE85_0 s at' ([]:List Za) 0 0 ([]:List Za) 0 0 (lJ85_0 s at' (lN85_0 s)):=⟨rfl,rfl,rfl,rfl,Imp.refl _,rfl,Qr _,h⟩
abbrev jI85_0 (s:Za) (at':Int) (out:List Za) (from':Int):Prop:=(0:Int)<=from'/\from'<=(s.size:Int)/\(out.length:Int)<=(s.size:Int)
abbrev jJ85_0 (s:Za) (at':Int) (j:List Za×Int):Prop:=(F85_j0 s at')=Lp.done j/\jI85_0 s at' j.1 j.2
theorem jn85_0 (s:Za) (at':Int) (out:List Za) (from':Int) (e:(F85_j0 s at')=Lp.done (out,from')) (h:jI85_0 s at' out from'):∃ j:List Za×Int,((.string s:Value)=.string s)/\((.int .i64 from':Value)=.int .i64 j.2)/\(Imp (.l 1 eStr out) (.l 1 eStr j.1))/\jJ85_0 s at' j:=⟨(out,from'),rfl,rfl,Imp.refl _,e,h⟩
theorem fi85 (s:Za) (at':Int) (r:List Za) (hF:r=(F85 s at')):(Imp (.l 1 eStr r) (.l 1 eStr (F85 s at')))/\True:=by cases hF; exact ⟨Imp.refl _,trivial⟩
def S85 (s:Za) (at':Int):Spec:=⟨[.r (.c (.v (.string s))),.r (.c (.v (.int .u8 (at'%256))))],.ow (.l 1 eStr (F85 s at')),s.size<=1048576⟩
theorem ok85 (s:Za) (at':Int):(S85 s at').ok Tryz.prog 85 :=
 fnG_ok mixed (fn:=Tryz.f85) (ct:=.seq .no (.seq (.reg [(0,.dat (.l 1 eStr ([]:List Za)))]) (.seq .no (.cut (ι:=List Za×Int) (fun j=>(fun (out:List Za) (from':Int)=>(⟨[(0,some (.v (.string s))),(5,some (.h 0 0)),(6,some (.v (vI from')))],[(0,some (.own 0 (.l 1 eStr out)))],1⟩:St)) j.1 j.2) (jJ85_0 s at') (.seqk [(5,0)] .no (.blk (.loop (ι:=Nat×(List Za×Int×Int)) (fun i=>(fun (out1:List Za) (from'1:Int) (i40:Int)=>(⟨[(0,some (.v (.string s))),(1,some (.v (.int .u8 (at'%256)))),(5,some (.h 0 0)),(6,some (.v (vI from'1))),(7,some (.v (vI i40)))],[(0,some (.own 0 (.l 1 eStr out1)))],1⟩:St)) i.2.1 i.2.2.1 i.2.2.2) (lJ85_0 s at') (fun i=>i.1) (lN85_0 s) (fun i=>(fun (out1:List Za) (from'1:Int) (i40:Int)=>(.seq (.seq .no (.cond .no .no)) (.seq (.blk (.seq .no (.cond (.seq (.reg [(6,.dat (.l 1 eStr (out1++[(s.extract (Int.toNat from'1) i40.toNat)])))]) (.reg [(1,.bnd)])) .no))) (.reg [(1,.bnd)])))) i.2.1 i.2.2.1 i.2.2.2)))) (fun j=>(fun (out:List Za) (from':Int)=>(.seq (.reg [(5,.dat (.l 1 eStr (out++[(s.extract from'.toNat (s.size:Int).toNat)])))]) .no)) j.1 j.2))))) Tryz.func85 (fun (hpre0:s.size<=1048576)=>ai (bokr 1 eStr ([]:List Za) fun _=>rfl) (ai (kn ([]:List Za) fun _=>ai (en85_0 s at' (by refine ⟨?_,?_,?_,?_,?_,?_⟩ <;> first | omega | (simp only [lens,ib] at*<;> omega))) (fun (i0:Nat×(List Za×Int×Int)) (hi0:lJ85_0 s at' i0)=>(fun (m0:Nat) (out1:List Za) (from'1:Int) (i40:Int) (hh0:lH85_0 s at' i0 m0 out1 from'1 i40)=>have hI0:=hh0.1; have hl0:=hh0.2.1; have _:=hh0.2.2.1; have _:=hh0.2.2.2; ifd (i40<(s.size:Int)) (fun h2 _=>ai (uu2:0<=i40/\i40<(s.size:Int)) (ife ((s.data.getD i40.toNat 0).toNat:Int) (at'%256) (fun h3 _=>ai (uu2:0<=from'1/\from'1<=i40/\i40<=(s.size:Int)) (ai (appr 1 eStr out1 [(s.extract (Int.toNat from'1) i40.toNat)] fun _=>rfl) (ai (uu17:(out1++[(s.extract (Int.toNat from'1) i40.toNat)]).length*16<=140737488355328) (ai (iok (i40+1) uu2) (ai (iok (i40+1) uu2) (bk85_0 s at' i0 m0 (out1++[(s.extract (Int.toNat from'1) i40.toNat)]) (i40+1) (i40+1) hl0 (runL_next hI0 (condT h2 (condT h3 rfl))) uu64)))))) (fun h3 _=>ai (iok (i40+1) uu2) (bk85_0 s at' i0 m0 out1 from'1 (i40+1) hl0 (runL_next hI0 (condT h2 (condF h3 rfl))) uu64)))) (fun h2 _=>have hD0_4:lX85_0 s at'=Lp.done (out1,from'1,i40):=runL_done hI0 (condF h2 rfl); jn85_0 s at' out1 from'1 (S5 (finD hD0_4 rfl)) uu25)) (i0.1-1) i0.2.1 i0.2.2.1 i0.2.2.2 (un85_0 s at' i0 hi0))) (fun (j:List Za×Int) (hj:jJ85_0 s at' j)=>(fun (out:List Za) (from':Int) (hJ0_5:(F85_j0 s at')=Lp.done (out,from')) (hw:jI85_0 s at' out from')=>have _:=hw.1; have _:=hw.2.1; have _:=hw.2.2; ai (uu2:0<=from'/\from'<=(s.size:Int)/\(s.size:Int)<=(s.size:Int)) (ai (appr 1 eStr out [(s.extract from'.toNat (s.size:Int).toNat)] fun _=>rfl) (ai (uu17:(out++[(s.extract from'.toNat (s.size:Int).toNat)]).length*16<=140737488355328) (fi85 s at' (out++[(s.extract from'.toNat (s.size:Int).toNat)]) (finD hJ0_5 rfl))))) j.1 j.2 hj.1 hj.2))) uu3
def F130 (n:Int) (low:Int) (high:Int):Bool :=
 (bif decide (n>=low) then decide (n<=high) else false)
def S130 (R:Bool) (n:Int) (low:Int) (high:Int):Spec:=⟨[.r (.c (.v (vI n))),.r (.c (.v (vI low))),.r (.c (.v (vI high)))],.v (.bool R),True⟩
theorem ok130 (n:Int) (low:Int) (high:Int):(S130 (F130 n low high) n low high).ok Tryz.prog 130 :=
 fnG_ok mixed (fn:=Tryz.f130) (ct:=.seq .no (.seq .no .no)) Tryz.func130 (fun (_:True)=>fiB (bif decide (n>=low) then decide (n<=high) else false) (F130 n low high) rfl) uu3
theorem as130 (n:Int) (low:Int) (high:Int):F130 n low high=(decide (low<=n/\n<=high)):=by
 simp only [F130,Gl,bandd]
theorem oa130 (n:Int) (low:Int) (high:Int):(S130 (decide (low<=n/\n<=high)) n low high).ok Tryz.prog 130:=by
 intro hp; have h:=ok130 n low high hp; rw [as130 n low high] at h; exact h
theorem kc130a (n:Int) (low:Int) (high:Int) {K_:Prop} (k_:K_):(True)/\(Imp (.v (vI n)) (.v (vI n)))/\(Imp (.v (vI low)) (.v (vI low)))/\(Imp (.v (vI high)) (.v (vI high)))/\K_:=⟨trivial,Imp.refl _,Imp.refl _,Imp.refl _,k_⟩
abbrev kh130a (n:Int) (low:Int) (high:Int):Hint true Tryz.prog:=.call 130 (S130 (decide (low<=n/\n<=high)) n low high) (oa130 n low high) none
theorem kg130a {K_:Prop} (c_ b_:Bool) (n:Int) (low:Int) (high:Int) (k_:K_):(c_=b_->True)/\(c_=b_->Imp (.v (vI n)) (.v (vI n)))/\(c_=b_->Imp (.v (vI low)) (.v (vI low)))/\(c_=b_->Imp (.v (vI high)) (.v (vI high)))/\K_:=⟨fun _=>trivial,fun _=>Imp.refl _,fun _=>Imp.refl _,fun _=>Imp.refl _,k_⟩
def F82_s0 (s:Za):Int->Lp Int Bool:=fun i40 =>
 bif (decide (i40<(s.size:Int))) then (bif (bif (bif (!(decide (97<=(IntKind.i64.wrap ((s.data.getD i40.toNat 0).toNat:Int))/\(IntKind.i64.wrap ((s.data.getD i40.toNat 0).toNat:Int))<=122))) then (!(decide (48<=(IntKind.i64.wrap ((s.data.getD i40.toNat 0).toNat:Int))/\(IntKind.i64.wrap ((s.data.getD i40.toNat 0).toNat:Int))<=57))) else false) then (((s.data.getD i40.toNat 0).toNat:Int) != 45) else false) then (.ret false) else (.next (i40+1))) else (.done i40)
def F82 (s:Za):Bool :=
 bif (!(decide (1<=(s.size:Int)/\(s.size:Int)<=8))) then false else ((runL (F82_s0 s) (((s.size:Int)-0).toNat+1) 0).fin (fun r=>r) (fun i40=>true))
abbrev lN82_0 (s:Za):Nat×Int:=((((s.size:Int)-0).toNat+1),0)
abbrev lI82_0 (s:Za) (m39:Nat) (i40:Int):Prop:=Int.toNat ((s.size:Int)-i40)<m39/\(0:Int)<=i40
abbrev lX82_0 (s:Za):Lp Int Bool:=LpX (F82_s0 s) (lN82_0 s)
abbrev lJ82_0 (s:Za) (i:Nat×Int):Prop:=LpJ (F82_s0 s) (lN82_0 s) i (lI82_0 s i.1 i.2)
abbrev lH82_0 (s:Za) (i:Nat×Int) (m39:Nat) (i40:Int):Prop:=LpH (F82_s0 s) (lN82_0 s) i m39 i40 (lI82_0 s (m39+1) i40)
abbrev lE82_0 (s:Za) (i40:Int) (i40_:Int) (K39:Prop):Prop:=(Rf (.string s))/\((.int .i64 i40:Value)=.int .i64 i40_)/\K39
theorem un82_0 (s:Za) (i:Nat×Int) (h:lJ82_0 s i):lH82_0 s i (i.1-1) i.2:=⟨hd1 h.1 h.2.1,hd3 h.2.1,hd2 h.2.1,h.2.2⟩
theorem bk82_0 (s:Za) (i:Nat×Int) (m39:Nat) (i40:Int) (hl:m39<i.1) (e:runL (F82_s0 s) m39 i40=lX82_0 s) (h:lI82_0 s m39 i40):∃ j:Nat×Int,lE82_0 s i40 j.2 (lJ82_0 s j/\j.1<i.1):=⟨(m39,i40),rfl,rfl,⟨e,h⟩,hl⟩
theorem en82_0 (s:Za) (h:(0:Int)<=0):lE82_0 s 0 0 (lJ82_0 s (lN82_0 s)):=⟨rfl,rfl,rfl,Qr _,h⟩
def S82 (s:Za):Spec:=⟨[.r (.c (.v (.string s)))],.v (.bool (F82 s)),s.size<=1048576⟩
theorem ok82 (s:Za):(S82 s).ok Tryz.prog 82 :=
 fnG_ok mixed (fn:=Tryz.f82) (ct:=.seq .no (.seq (.seq (.reg [(2,kh130a (s.size:Int) 1 8)]) (.cond (.seq .no .no) .no)) (.seq (.seq .no (.blk (.loop (ι:=Nat×Int) (fun i=>(fun (i40:Int)=>(⟨[(0,some (.v (.string s))),(3,some (.v (vI i40)))],[],0⟩:St)) i.2) (lJ82_0 s) (fun i=>i.1) (lN82_0 s) (fun i=>(fun (i40:Int)=>(.seq (.seq .no (.cond .no .no)) (.seq (.blk (.seq (.reg [(4,kh130a (IntKind.i64.wrap ((s.data.getD i40.toNat 0).toNat:Int)) 97 122),(11,kh130a (IntKind.i64.wrap ((s.data.getD i40.toNat 0).toNat:Int)) 48 57)]) (.cond (.seq .no .no) .no))) (.reg [(1,.bnd)])))) i.2)))) (.seq .no .no)))) Tryz.func82 (fun (hpre0:s.size<=1048576)=>kc130a (s.size:Int) 1 8 (ifb (!(decide (1<=(s.size:Int)/\(s.size:Int)<=8))) (fun h1=>have _:=Qv (notET h1); fiB false (F82 s) (condT h1 rfl)) (fun h1=>have _:=Qd (notEF h1); ai (en82_0 s uu0) (fun (i0:Nat×Int) (hi0:lJ82_0 s i0)=>(fun (m0:Nat) (i40:Int) (hh0:lH82_0 s i0 m0 i40)=>have hI0:=hh0.1; have hl0:=hh0.2.1; have _:=hh0.2.2.1; have _:=hh0.2.2.2; ifd (i40<(s.size:Int)) (fun h3 _=>ai (uu0:0<=i40/\i40<(s.size:Int)) (kc130a (IntKind.i64.wrap ((s.data.getD i40.toNat 0).toNat:Int)) 97 122 (ai (fun k4:(!(decide (97<=(IntKind.i64.wrap ((s.data.getD i40.toNat 0).toNat:Int))/\(IntKind.i64.wrap ((s.data.getD i40.toNat 0).toNat:Int))<=122)))=true=>have _:=Qv (notET k4); (uu0:0<=i40/\i40<(s.size:Int))) (kg130a (!(decide (97<=(IntKind.i64.wrap ((s.data.getD i40.toNat 0).toNat:Int))/\(IntKind.i64.wrap ((s.data.getD i40.toNat 0).toNat:Int))<=122))) true (IntKind.i64.wrap ((s.data.getD i40.toNat 0).toNat:Int)) 48 57 (ai (fun k6:(bif (!(decide (97<=(IntKind.i64.wrap ((s.data.getD i40.toNat 0).toNat:Int))/\(IntKind.i64.wrap ((s.data.getD i40.toNat 0).toNat:Int))<=122))) then (!(decide (48<=(IntKind.i64.wrap ((s.data.getD i40.toNat 0).toNat:Int))/\(IntKind.i64.wrap ((s.data.getD i40.toNat 0).toNat:Int))<=57))) else false)=true=>have _:=Qv (notET (andT1 k6)); have _:=Qv (notET (andT2 k6)); (uu0:0<=i40/\i40<(s.size:Int))) (ifb (bif (bif (!(decide (97<=(IntKind.i64.wrap ((s.data.getD i40.toNat 0).toNat:Int))/\(IntKind.i64.wrap ((s.data.getD i40.toNat 0).toNat:Int))<=122))) then (!(decide (48<=(IntKind.i64.wrap ((s.data.getD i40.toNat 0).toNat:Int))/\(IntKind.i64.wrap ((s.data.getD i40.toNat 0).toNat:Int))<=57))) else false) then (((s.data.getD i40.toNat 0).toNat:Int) != 45) else false) (fun h7=>have _:=Qv (notET (andT1 (andT1 h7))); have _:=Qv (notET (andT2 (andT1 h7))); have _:=bneT (andT2 h7); fiB false (F82 s) (condF h1 (finR (runL_ret hI0 (condT h3 (condT h7 rfl))) rfl))) (fun h7=>ai (iok (i40+1) uu0) (bk82_0 s i0 m0 (i40+1) hl0 (runL_next hI0 (condT h3 (condF h7 rfl))) uu6)))))))) (fun h3 _=>have hD0_8:lX82_0 s=Lp.done i40:=runL_done hI0 (condF h3 rfl); fiB true (F82 s) (condF h1 (finD hD0_8 rfl)))) (i0.1-1) i0.2 (un82_0 s i0 hi0))))) uu3
def F123_s0 (s:Za):(Int×Int)->Lp (Int×Int) Int:=fun (n,i40) =>
 bif (decide (i40<(s.size:Int))) then (bif (!(decide (48<=(IntKind.i64.wrap ((s.data.getD i40.toNat 0).toNat:Int))/\(IntKind.i64.wrap ((s.data.getD i40.toNat 0).toNat:Int))<=57))) then (.ret (-1)) else (.next ((IntKind.i64.wrap ((IntKind.i64.wrap (n*10))+(IntKind.i64.wrap (IntKind.u8.wrap (((s.data.getD i40.toNat 0).toNat:Int)-48))))),(i40+1)))) else (.done (n,i40))
def F123 (s:Za):Int :=
 bif (bif (!(decide (1<=(s.size:Int)/\(s.size:Int)<=6))) then true else (bif decide ((s.size:Int)>1) then (((s.data.getD (Int.toNat 0) 0).toNat:Int)==48) else false)) then (-1) else ((runL (F123_s0 s) (((s.size:Int)-0).toNat+1) (0,0)).fin (fun r=>r) (fun (n,i40)=>n))
abbrev lN123_0 (s:Za):Nat×(Int×Int):=((((s.size:Int)-0).toNat+1),(0,0))
abbrev lI123_0 (s:Za) (m39:Nat) (n:Int) (i40:Int):Prop:=Int.toNat ((s.size:Int)-i40)<m39/\(0:Int)<=i40
abbrev lX123_0 (s:Za):Lp (Int×Int) Int:=LpX (F123_s0 s) (lN123_0 s)
abbrev lJ123_0 (s:Za) (i:Nat×(Int×Int)):Prop:=LpJ (F123_s0 s) (lN123_0 s) i (lI123_0 s i.1 i.2.1 i.2.2)
abbrev lH123_0 (s:Za) (i:Nat×(Int×Int)) (m39:Nat) (n:Int) (i40:Int):Prop:=LpH (F123_s0 s) (lN123_0 s) i m39 (n,i40) (lI123_0 s (m39+1) n i40)
abbrev lE123_0 (s:Za) (n:Int) (i40:Int) (n_:Int) (i40_:Int) (K39:Prop):Prop:=(Rf (.string s))/\((.int .i64 n:Value)=.int .i64 n_)/\((.int .i64 i40:Value)=.int .i64 i40_)/\K39
theorem un123_0 (s:Za) (i:Nat×(Int×Int)) (h:lJ123_0 s i):lH123_0 s i (i.1-1) i.2.1 i.2.2:=⟨hd1 h.1 h.2.1,hd3 h.2.1,hd2 h.2.1,h.2.2⟩
theorem bk123_0 (s:Za) (i:Nat×(Int×Int)) (m39:Nat) (n:Int) (i40:Int) (hl:m39<i.1) (e:runL (F123_s0 s) m39 (n,i40)=lX123_0 s) (h:lI123_0 s m39 n i40):∃ j:Nat×(Int×Int),lE123_0 s n i40 j.2.1 j.2.2 (lJ123_0 s j/\j.1<i.1):=⟨(m39,(n,i40)),rfl,rfl,rfl,⟨e,h⟩,hl⟩
theorem en123_0 (s:Za) (h:(0:Int)<=0):lE123_0 s 0 0 0 0 (lJ123_0 s (lN123_0 s)):=⟨rfl,rfl,rfl,rfl,Qr _,h⟩
def S123 (s:Za):Spec:=⟨[.r (.c (.v (.string s)))],.v (vI (F123 s)),s.size<=1048576⟩
theorem ok123 (s:Za):(S123 s).ok Tryz.prog 123 :=
 fnG_ok mixed (fn:=Tryz.f123) (ct:=.seq .no (.seq (.seq (.reg [(2,kh130a (s.size:Int) 1 6)]) (.cond (.seq .no .no) .no)) (.seq .no (.seq (.seq .no (.blk (.loop (ι:=Nat×(Int×Int)) (fun i=>(fun (n:Int) (i40:Int)=>(⟨[(0,some (.v (.string s))),(3,some (.v (vI n))),(4,some (.v (vI i40)))],[],0⟩:St)) i.2.1 i.2.2) (lJ123_0 s) (fun i=>i.1) (lN123_0 s) (fun i=>(fun (n:Int) (i40:Int)=>(.seq (.seq .no (.cond .no .no)) (.seq (.blk (.seq (.seq (.reg [(4,kh130a (IntKind.i64.wrap ((s.data.getD i40.toNat 0).toNat:Int)) 48 57)]) (.cond (.seq .no .no) .no)) .no)) (.reg [(1,.bnd)])))) i.2.1 i.2.2)))) (.seq .no .no))))) Tryz.func123 (fun (hpre0:s.size<=1048576)=>kc130a (s.size:Int) 1 6 (ai (fun k2:(decide ((s.size:Int)>1))=true=>have _:=Qd k2; (fun k1:(!(decide (1<=(s.size:Int)/\(s.size:Int)<=6)))=false=>have _:=Qd (notEF k1); (uu0:0<=(0:Int)/\(0:Int)<(s.size:Int)))) (ifb (bif (!(decide (1<=(s.size:Int)/\(s.size:Int)<=6))) then true else (bif decide ((s.size:Int)>1) then (((s.data.getD (Int.toNat 0) 0).toNat:Int)==48) else false)) (fun h3=>fiI (-1) (F123 s) (condT h3 rfl)) (fun h3=>have _:=Qd (notEF (orF1 h3)); ai (en123_0 s uu0) (fun (i0:Nat×(Int×Int)) (hi0:lJ123_0 s i0)=>(fun (m0:Nat) (n:Int) (i40:Int) (hh0:lH123_0 s i0 m0 n i40)=>have hI0:=hh0.1; have hl0:=hh0.2.1; have _:=hh0.2.2.1; have _:=hh0.2.2.2; ifd (i40<(s.size:Int)) (fun h5 _=>ai (uu0:0<=i40/\i40<(s.size:Int)) (kc130a (IntKind.i64.wrap ((s.data.getD i40.toNat 0).toNat:Int)) 48 57 (ifb (!(decide (48<=(IntKind.i64.wrap ((s.data.getD i40.toNat 0).toNat:Int))/\(IntKind.i64.wrap ((s.data.getD i40.toNat 0).toNat:Int))<=57))) (fun h6=>have _:=Qv (notET h6); fiI (-1) (F123 s) (condF h3 (finR (runL_ret hI0 (condT h5 (condT h6 rfl))) rfl))) (fun h6=>have _:=Qd (notEF h6); ai (uu0:0<=i40/\i40<(s.size:Int)) (ai (iok (i40+1) uu0) (bk123_0 s i0 m0 (IntKind.i64.wrap ((IntKind.i64.wrap (n*10))+(IntKind.i64.wrap (IntKind.u8.wrap (((s.data.getD i40.toNat 0).toNat:Int)-48))))) (i40+1) hl0 (runL_next hI0 (condT h5 (condF h6 rfl))) uu6)))))) (fun h5 _=>have hD0_7:lX123_0 s=Lp.done (n,i40):=runL_done hI0 (condF h5 rfl); fiI n (F123 s) (condF h3 (finD hD0_7 rfl)))) (i0.1-1) i0.2.1 i0.2.2 (un123_0 s i0 hi0)))))) uu3
def F153_s0 (n:Int):(Int×Int)->Lp (Int×Int) Int:=fun (out,i40) =>
 bif (decide (i40<16)) then (.next ((IntKind.i64.wrap (out*2)),(i40+1))) else (.done (out,i40))
def F153 (n:Int):Int :=
 (runL (F153_s0 n) ((16-n).toNat+1) (1,n)).fin (fun r=>r) (fun (out,i40)=>out)
abbrev lN153_0 (n:Int):Nat×(Int×Int):=(((16-n).toNat+1),(1,n))
abbrev lI153_0 (m39:Nat) (out:Int) (i40:Int):Prop:=Int.toNat (16-i40)<m39/\(0:Int)<=i40
abbrev lX153_0 (n:Int):Lp (Int×Int) Int:=LpX (F153_s0 n) (lN153_0 n)
abbrev lJ153_0 (n:Int) (i:Nat×(Int×Int)):Prop:=LpJ (F153_s0 n) (lN153_0 n) i (lI153_0 i.1 i.2.1 i.2.2)
abbrev lH153_0 (n:Int) (i:Nat×(Int×Int)) (m39:Nat) (out:Int) (i40:Int):Prop:=LpH (F153_s0 n) (lN153_0 n) i m39 (out,i40) (lI153_0 (m39+1) out i40)
abbrev lE153_0 (out:Int) (i40:Int) (out_:Int) (i40_:Int) (K39:Prop):Prop:=((.int .i64 out:Value)=.int .i64 out_)/\((.int .i64 i40:Value)=.int .i64 i40_)/\K39
theorem un153_0 (n:Int) (i:Nat×(Int×Int)) (h:lJ153_0 n i):lH153_0 n i (i.1-1) i.2.1 i.2.2:=⟨hd1 h.1 h.2.1,hd3 h.2.1,hd2 h.2.1,h.2.2⟩
theorem bk153_0 (n:Int) (i:Nat×(Int×Int)) (m39:Nat) (out:Int) (i40:Int) (hl:m39<i.1) (e:runL (F153_s0 n) m39 (out,i40)=lX153_0 n) (h:lI153_0 m39 out i40):∃ j:Nat×(Int×Int),lE153_0 out i40 j.2.1 j.2.2 (lJ153_0 n j/\j.1<i.1):=⟨(m39,(out,i40)),rfl,rfl,⟨e,h⟩,hl⟩
theorem en153_0 (n:Int) (h:(0:Int)<=n):lE153_0 1 n 1 n (lJ153_0 n (lN153_0 n)):=⟨rfl,rfl,rfl,Qr _,h⟩
def S153 (n:Int):Spec:=⟨[.r (.c (.v (vI n)))],.v (vI (F153 n)),0<=n⟩
theorem ok153 (n:Int):(S153 n).ok Tryz.prog 153 :=
 fnG_ok mixed (fn:=Tryz.f153) (ct:=.seq .no (.seq .no (.seq (.seq .no (.blk (.loop (ι:=Nat×(Int×Int)) (fun i=>(fun (out:Int) (i40:Int)=>(⟨[(3,some (.v (vI out))),(4,some (.v (vI i40)))],[],0⟩:St)) i.2.1 i.2.2) (lJ153_0 n) (fun i=>i.1) (lN153_0 n) (fun i=>(fun (out:Int) (i40:Int)=>(.seq (.seq .no (.cond .no .no)) (.seq (.blk .no) (.reg [(1,.bnd)])))) i.2.1 i.2.2)))) (.seq .no .no)))) Tryz.func153 (fun (hpre0:0<=n)=>ai (en153_0 n uu0) (fun (i0:Nat×(Int×Int)) (hi0:lJ153_0 n i0)=>(fun (m0:Nat) (out:Int) (i40:Int) (hh0:lH153_0 n i0 m0 out i40)=>have hI0:=hh0.1; have hl0:=hh0.2.1; have _:=hh0.2.2.1; have _:=hh0.2.2.2; ifd (i40<16) (fun h2 _=>ai (iok (i40+1) uu0) (bk153_0 n i0 m0 (IntKind.i64.wrap (out*2)) (i40+1) hl0 (runL_next hI0 (condT h2 rfl)) uu6)) (fun h2 _=>have hD0_3:lX153_0 n=Lp.done (out,i40):=runL_done hI0 (condF h2 rfl); fiI out (F153 n) (finD hD0_3 rfl))) (i0.1-1) i0.2.1 i0.2.2 (un153_0 n i0 hi0))) uu3
theorem g153_0 (n:Int):0<=n->n<=16->1<=(F153 n)/\(F153 n)<=65536:=by
 intro h1 h2; have h3:n=0\/n=1\/n=2\/n=3\/n=4\/n=5\/n=6\/n=7\/n=8\/n=9\/n=10\/n=11\/n=12\/n=13\/n=14\/n=15\/n=16:=by omega
 rcases h3 with rfl | rfl | rfl | rfl | rfl | rfl | rfl | rfl | rfl | rfl | rfl | rfl | rfl | rfl | rfl | rfl | rfl <;> exact Qd rfl
def F84_s0 (list:List Za) (s:Za):Int->Lp Int Bool:=fun i40 =>
 bif (decide (i40<(list.length:Int))) then (bif ((list.getD i40.toNat default).toList==s.toList) then (.ret true) else (.next (i40+1))) else (.done i40)
def F84 (list:List Za) (s:Za):Bool :=
 (runL (F84_s0 list s) (((list.length:Int)-0).toNat+1) 0).fin (fun r=>r) (fun i40=>false)
abbrev lN84_0 (list:List Za):Nat×Int:=((((list.length:Int)-0).toNat+1),0)
abbrev lI84_0 (list:List Za) (m39:Nat) (i40:Int):Prop:=Int.toNat ((list.length:Int)-i40)<m39/\(0:Int)<=i40
abbrev lX84_0 (list:List Za) (s:Za):Lp Int Bool:=LpX (F84_s0 list s) (lN84_0 list)
abbrev lJ84_0 (list:List Za) (s:Za) (i:Nat×Int):Prop:=LpJ (F84_s0 list s) (lN84_0 list) i (lI84_0 list i.1 i.2)
abbrev lH84_0 (list:List Za) (s:Za) (i:Nat×Int) (m39:Nat) (i40:Int):Prop:=LpH (F84_s0 list s) (lN84_0 list) i m39 i40 (lI84_0 list (m39+1) i40)
abbrev lE84_0 (list:List Za) (s:Za) (i40:Int) (i40_:Int) (K39:Prop):Prop:=(Rf (.string s))/\((.int .i64 i40:Value)=.int .i64 i40_)/\(Im (.l 1 eStr list))/\K39
theorem un84_0 (list:List Za) (s:Za) (i:Nat×Int) (h:lJ84_0 list s i):lH84_0 list s i (i.1-1) i.2:=⟨hd1 h.1 h.2.1,hd3 h.2.1,hd2 h.2.1,h.2.2⟩
theorem bk84_0 (list:List Za) (s:Za) (i:Nat×Int) (m39:Nat) (i40:Int) (hl:m39<i.1) (e:runL (F84_s0 list s) m39 i40=lX84_0 list s) (h:lI84_0 list m39 i40):∃ j:Nat×Int,lE84_0 list s i40 j.2 (lJ84_0 list s j/\j.1<i.1):=⟨(m39,i40),rfl,rfl,Imp.refl _,⟨e,h⟩,hl⟩
theorem en84_0 (list:List Za) (s:Za) (h:(0:Int)<=0):lE84_0 list s 0 0 (lJ84_0 list s (lN84_0 list)):=⟨rfl,rfl,Imp.refl _,rfl,Qr _,h⟩
def S84 (list:List Za) (s:Za):Spec:=⟨[.r (.c (.l 1 eStr list)),.r (.c (.v (.string s)))],.v (.bool (F84 list s)),True⟩
theorem ok84 (list:List Za) (s:Za):(S84 list s).ok Tryz.prog 84 :=
 fnG_ok mixed (fn:=Tryz.f84) (ct:=.seqk [(0,0)] .no (.seq (.seqk [(0,0)] .no (.blk (.loop (ι:=Nat×Int) (fun i=>(fun (i40:Int)=>(⟨[(0,some (.h 0 0)),(1,some (.v (.string s))),(5,some (.v (vI i40)))],[(0,some (.shr none (.l 1 eStr list)))],1⟩:St)) i.2) (lJ84_0 list s) (fun i=>i.1) (lN84_0 list) (fun i=>(fun (i40:Int)=>(.seq (.seq .no (.cond .no .no)) (.seq (.blk (.seq .no (.cond (.seq .no .no) .no))) (.reg [(1,.bnd)])))) i.2)))) (.seq .no .no))) Tryz.func84 (fun (_:True)=>kn list fun _=>kn list fun _=>ai (en84_0 list s uu0) (fun (i0:Nat×Int) (hi0:lJ84_0 list s i0)=>(fun (m0:Nat) (i40:Int) (hh0:lH84_0 list s i0 m0 i40)=>have hI0:=hh0.1; have hl0:=hh0.2.1; have _:=hh0.2.2.1; have _:=hh0.2.2.2; ifd (i40<(list.length:Int)) (fun h2 _=>ai (uu0:ib i40 list) (ifb ((list.getD i40.toNat default).toList==s.toList) (fun h3=>fiB true (F84 list s) (finR (runL_ret hI0 (condT h2 (condT h3 rfl))) rfl)) (fun h3=>ai (iok (i40+1) uu0) (bk84_0 list s i0 m0 (i40+1) hl0 (runL_next hI0 (condT h2 (condF h3 rfl))) uu6)))) (fun h2 _=>have hD0_4:lX84_0 list s=Lp.done i40:=runL_done hI0 (condF h2 rfl); fiB false (F84 list s) (finD hD0_4 rfl))) (i0.1-1) i0.2 (un84_0 list s i0 hi0))) uu3
def F143:List Za :=
 Wd
theorem fi143 (r:List Za) (hF:r=F143):(Imp (.l 1 eStr r) (.l 1 eStr F143))/\True:=by cases hF; exact ⟨Imp.refl _,trivial⟩
def S143:Spec:=⟨[],.ow (.l 1 eStr F143),True⟩
theorem ok143:(S143).ok Tryz.prog 143 :=
 fnG_ok mixed (fn:=Tryz.f143) (ct:=.seq .no (.seq (.reg [(0,.dat (.l 1 eStr Wd))]) .no)) Tryz.func143 (fun (_:True)=>ai (bokr 1 eStr Wd fun _=>rfl) (fi143 Wd rfl)) uu3
theorem mkB_ext (s:Za) (a b:Nat):mkB ((s.data.toList.drop a).take (b-a))=s.extract a b:=by
 refine ba_ext ?_
 rw [mkB_data,T9,Gt,Te]
theorem cutS_end (s:Za) (c:UInt8) (out:List Za) (f:Int):F85_s0 s (c.toNat:Int) (out,f,(s.size:Int))=.done (out,f,(s.size:Int)):=by
 simp only [F85_s0,Qq (show ¬ (s.size:Int)<(s.size:Int) by omega),Qb]
theorem cutS_mid (s:Za) (c:UInt8) (out:List Za) (f i:Nat) (hi:i<s.size) (b:UInt8) (hb:s.data.toList.getD i 0=b):F85_s0 s (c.toNat:Int) (out,(f:Int),(i:Int)) =
  if b=c then .next (out++[s.extract f i],((i+1:Nat):Int),((i+1:Nat):Int)) else .next (out,(f:Int),((i+1:Nat):Int)):=by
 have hc:((c.toNat:Int)%256)=(c.toNat:Int):=by have:=c.toNat_lt; omega
 simp only [F85_s0,Qs (show (i:Int)<(s.size:Int) by omega),Qc,Rr,getD_list,hb,hc,u8_eq]
 by_cases h:b=c
 ·rw [Qs h,if_pos h]; rfl
 ·rw [Qq h,if_neg h]; rfl
theorem cutS_loop (s:Za) (c:UInt8):∀ (m i f:Nat) (out:List Za),i+m=s.size->f<=i->c ∉ (s.data.toList.drop f).take (i-f)->∀ fuel,m<fuel ->
  ((runL (F85_s0 s (c.toNat:Int)) fuel (out,(f:Int),(i:Int))).fin Lp.ret (fun (out1,from'1,i40)=>.done (out1,from'1))).fin (fun r=>r) (fun (out,from')=>out++[s.extract from'.toNat (s.size:Int).toNat])=out++(splitL c (s.data.toList.drop f)).map mkB
 | m,i,f,out,_,_,_,0,hf=>absurd hf (R5 _)
 | 0,i,f,out,h,hfi,hc,fuel+1,hf=>by
  have hl:s.data.toList.length=s.size:=Q5
  obtain rfl:i=s.size:=by omega
  rw [runL_d _ (cutS_end s c out f)]
  have e:(s.data.toList.drop f).take (s.size-f)=s.data.toList.drop f:=Sp (by rw [Tl]; omega)
  rw [e] at hc
  rw [splitL_none hc,Rc,Hd,<- e,mkB_ext]
  rfl
 | m+1,i,f,out,h,hfi,hc,fuel+1,hf=>by
  have hl:s.data.toList.length=s.size:=Q5
  have hb:s.data.toList.drop i=s.data.toList.getD i 0 :: s.data.toList.drop (i+1):=by
   rw [Rd uu0,Qe,Qj uu0]; rfl
  have hw:s.data.toList.drop f=(s.data.toList.drop f).take (i-f)++s.data.toList.drop i:=by
   have:=(Rx (i-f) (s.data.toList.drop f)).symm
   rw [Gb,show f+(i-f)=i by omega] at this
   exact this
  have h1:=cutS_mid s c out f i uu0 _ rfl
  generalize hbb:s.data.toList.getD i 0=b at h1 hb
  by_cases hbc:b=c
  ·rw [if_pos hbc] at h1
   rw [runL_n _ h1,cutS_loop s c m (i+1) (i+1) _ uu0 (Qn _) (by rw [Gz,Gd]; exact Rl) fuel uu0]
   rw [hw,hb,hbc,splitL_app _ hc,Rc,mkB_ext,Q1]
   rfl
  ·rw [if_neg hbc] at h1
   have hc':c ∉ (s.data.toList.drop f).take (i+1-f):=by
    have e:(s.data.toList.drop f).take (i+1-f)=(s.data.toList.drop f).take (i-f)++[b]:=by
     have hg:s.data.toList[i]?=some b:=by
      rw [Qe,Qj uu0] at hbb
      rw [Qj uu0]
      exact Qh some hbb
     rw [show i+1-f=(i-f)+1 by omega,List.take_add_one,Rw,show f+(i-f)=i by omega,hg]
     rfl
    rw [e]
    intro hm
    rcases Q4.1 hm with h2 | h2
    ·exact hc h2
    ·exact hbc (Qy.1 h2).symm
   rw [runL_n _ h1]
   exact cutS_loop s c m (i+1) f out uu0 uu0 hc' fuel uu0
theorem specCut_eq (s:Za) (c:UInt8):F85 s (c.toNat:Int)=(splitL c s.data.toList).map mkB:=by
 have:=cutS_loop s c s.size 0 0 [] uu0 (Qn _) (by rw [Gz,Gd]; exact Rl) (Int.toNat ((s.size:Int)-0)+1) uu0
 rw [Ro,R0] at this
 exact this
theorem splitS_mk (s:Za) (c:UInt8):splitS s ⟨#[c]⟩=(splitL c s.data.toList).map mkB:=by
 rw [<- splitS_one,Gp]
 exact ((T6 fun x _=>mkB_self x).trans (Hl _)).symm
theorem specCut_split (s:Za) (c:UInt8):F85 s (c.toNat:Int)=splitS s ⟨#[c]⟩:=(specCut_eq s c).trans (splitS_mk s c).symm
theorem cutS_any (s:Za) (a:Int):∃ c:UInt8,F85 s a=(splitL c s.data.toList).map mkB:=by
 refine ⟨UInt8.ofNat (a%256).toNat,?_⟩
 rw [<- specCut_eq]
 have h:((UInt8.ofNat (a%256).toNat).toNat:Int)%256=a%256:=by
  rw [UInt8.toNat_ofNat']
  omega
 have e:F85_s0 s a=F85_s0 s ((UInt8.ofNat (a%256).toNat).toNat:Int):=by
  funext ⟨o,f,i⟩
  simp only [F85_s0,h]
 unfold F85 F85_j0
 rw [e]
theorem splitL_le (c:UInt8):∀ (l:List UInt8),∀ w∈splitL c l,w.length<=l.length
 | [],w,h=>by
  rw [splitL,Qy] at h; rw [h]; exact Qn _
 | b :: l,w,h=>by
  have ih:=splitL_le c l
  rw [splitL] at h
  by_cases hb:b=c
  ·rw [if_pos hb] at h
   rcases Qt.1 h with rfl | h
   ·exact Re _
   ·exact Nat.le_succ_of_le (ih w h)
  ·rw [if_neg hb] at h
   cases hs:splitL c l with
   | nil =>
    rw [hs] at h
    rw [Qy] at h; rw [h]; exact Hf (Re _)
   | cons p ps =>
    rw [hs] at h ih
    rcases Qt.1 h with rfl | h
    ·exact Hf (ih p Qi)
    ·exact Nat.le_succ_of_le (ih w (Qg _ h))
theorem getD_mk_le (ws:List (List UInt8)) (n:Nat) (h:∀ w∈ws,w.length<=n) (k:Nat):(((ws.map mkB).getD k default:Za)).size<=n:=by
 by_cases hk:k<ws.length
 ·rw [Qe,Qj (by simpa using hk),List.getElem_map]
  exact h _ (He hk)
 ·rw [getD_ge _ (by simpa using hk)]
  exact Re _
theorem cutS_sz (s:Za) (a:Int) (h:s.size<=1048576) (k:Nat):(((F85 s a).getD k default:Za)).size<=1048576:=by
 obtain ⟨c,e⟩:=cutS_any s a
 rw [e]
 refine getD_mk_le _ _ (fun w hw=>?_) k
 have:=splitL_le c _ w hw
 have hl:s.data.toList.length=s.size:=Q5
 omega
theorem kc123 (s:Za) {K_:Prop} (p0_:s.size<=1048576) (k_:K_):(s.size<=1048576)/\(Imp (.v (.string s)) (.v (.string s)))/\K_:=⟨p0_,Imp.refl _,k_⟩
abbrev kh123 (s:Za):Hint true Tryz.prog:=.call 123 (S123 s) (ok123 s) none
def F93 (s:Za) (low:Int) (high:Int):Bool :=
 (decide (low<=(F123 s)/\(F123 s)<=high))
def S93 (R:Bool) (s:Za) (low:Int) (high:Int):Spec:=⟨[.r (.c (.v (.string s))),.r (.c (.v (vI low))),.r (.c (.v (vI high)))],.v (.bool R),s.size<=1048576⟩
theorem ok93 (s:Za) (low:Int) (high:Int):(S93 (F93 s low high) s low high).ok Tryz.prog 93 :=
 fnG_ok mixed (fn:=Tryz.f93) (ct:=.seq .no (.seq (.reg [(1,kh123 s),(4,kh130a (F123 s) low high)]) .no)) Tryz.func93 (fun (hpre0:s.size<=1048576)=>kc123 s uu0 (kc130a (F123 s) low high (fiB (decide (low<=(F123 s)/\(F123 s)<=high)) (F93 s low high) rfl))) uu3
theorem as93 (s:Za) (low:Int) (high:Int):F93 s low high=(decide (low<=F123 s/\F123 s<=high)):=by
 rfl
theorem oa93 (s:Za) (low:Int) (high:Int):(S93 (decide (low<=F123 s/\F123 s<=high)) s low high).ok Tryz.prog 93:=by
 intro hp; have h:=ok93 s low high hp; rw [as93 s low high] at h; exact h
theorem kc85 (s:Za) (at':Int) {K_:Prop} (p0_:s.size<=1048576) (q0_:s.size<=1048576) (k_:(∀ k:Nat,((F85 s at').getD k default).size<=1048576)->K_):(s.size<=1048576)/\(Imp (.v (.string s)) (.v (.string s)))/\(Imp (.v (.int .u8 at')) (.v (.int .u8 at')))/\K_:=⟨p0_,Imp.refl _,Imp.refl _,k_ (cutS_sz s at' q0_)⟩
abbrev kh85 (s:Za) (at':Int):Hint true Tryz.prog:=.call 85 (S85 s at') (ok85 s at') none
theorem kg93a {K_:Prop} (c_ b_:Bool) (s:Za) (low:Int) (high:Int) (p_:c_=b_->s.size<=1048576) (k_:K_):(c_=b_->s.size<=1048576)/\(c_=b_->Imp (.v (.string s)) (.v (.string s)))/\(c_=b_->Imp (.v (vI low)) (.v (vI low)))/\(c_=b_->Imp (.v (vI high)) (.v (vI high)))/\K_:=⟨p_,fun _=>Imp.refl _,fun _=>Imp.refl _,fun _=>Imp.refl _,k_⟩
abbrev kh93a (s:Za) (low:Int) (high:Int):Hint true Tryz.prog:=.call 93 (S93 (decide (low<=F123 s/\F123 s<=high)) s low high) (oa93 s low high) none
def F95 (s:Za):Int :=
 bif (bif (bif (((F85 s 46).length:Int) != 2) then true else (!(decide (0<=F123 ((F85 s 46).getD (Int.toNat 0) default)/\F123 ((F85 s 46).getD (Int.toNat 0) default)<=255)))) then true else (!(decide (0<=F123 ((F85 s 46).getD (Int.toNat 1) default)/\F123 ((F85 s 46).getD (Int.toNat 1) default)<=255)))) then (-1) else (IntKind.i64.wrap ((IntKind.i64.wrap (256*(F123 ((F85 s 46).getD (Int.toNat 0) default))))+(F123 ((F85 s 46).getD (Int.toNat 1) default))))
def S95 (s:Za):Spec:=⟨[.r (.c (.v (.string s)))],.v (vI (F95 s)),s.size<=1048576⟩
theorem ok95 (s:Za):(S95 s).ok Tryz.prog 95 :=
 fnG_ok mixed (fn:=Tryz.f95) (ct:=.seq .no (.seq (.reg [(1,kh85 s 46)]) (.seq (.seq (.reg [(7,kh93a ((F85 s 46).getD (Int.toNat 0) default) 0 255),(14,kh93a ((F85 s 46).getD (Int.toNat 1) default) 0 255)]) (.cond (.seq .no .no) .no)) (.seq (.reg [(3,kh123 ((F85 s 46).getD (Int.toNat 0) default)),(8,kh123 ((F85 s 46).getD (Int.toNat 1) default))]) .no)))) Tryz.func95 (fun (hpre0:s.size<=1048576)=>kc85 s 46 uu0 uu0 (fun gv1=>ai (fun k2:(((F85 s 46).length:Int) != 2)=false=>have _:=bneF k2; (uu0:ib 0 (F85 s 46))) (kg93a (((F85 s 46).length:Int) != 2) false ((F85 s 46).getD (Int.toNat 0) default) 0 255 (fun k3=>have _:=bneF k3; uu42) (ai (fun k4:(bif (((F85 s 46).length:Int) != 2) then true else (!(decide (0<=F123 ((F85 s 46).getD (Int.toNat 0) default)/\F123 ((F85 s 46).getD (Int.toNat 0) default)<=255))))=false=>have _:=bneF (orF1 k4); have _:=Qd (notEF (orF2 k4)); (uu0:ib 1 (F85 s 46))) (kg93a (bif (((F85 s 46).length:Int) != 2) then true else (!(decide (0<=F123 ((F85 s 46).getD (Int.toNat 0) default)/\F123 ((F85 s 46).getD (Int.toNat 0) default)<=255)))) false ((F85 s 46).getD (Int.toNat 1) default) 0 255 (fun k5=>have _:=bneF (orF1 k5); have _:=Qd (notEF (orF2 k5)); uu42) (ifb (bif (bif (((F85 s 46).length:Int) != 2) then true else (!(decide (0<=F123 ((F85 s 46).getD (Int.toNat 0) default)/\F123 ((F85 s 46).getD (Int.toNat 0) default)<=255)))) then true else (!(decide (0<=F123 ((F85 s 46).getD (Int.toNat 1) default)/\F123 ((F85 s 46).getD (Int.toNat 1) default)<=255)))) (fun h6=>fiI (-1) (F95 s) (condT h6 rfl)) (fun h6=>have _:=bneF (orF1 (orF1 h6)); have _:=Qd (notEF (orF2 (orF1 h6))); have _:=Qd (notEF (orF2 h6)); ai (uu0:ib 0 (F85 s 46)) (kc123 ((F85 s 46).getD (Int.toNat 0) default) uu42 (ai (uu0:ib 1 (F85 s 46)) (kc123 ((F85 s 46).getD (Int.toNat 1) default) uu42 (fiI (IntKind.i64.wrap ((IntKind.i64.wrap (256*(F123 ((F85 s 46).getD (Int.toNat 0) default))))+(F123 ((F85 s 46).getD (Int.toNat 1) default)))) (F95 s) (condF h6 rfl)))))))))))) uu3
theorem kc143 {K_:Prop} (k_:K_):(True)/\K_:=⟨trivial,k_⟩
abbrev kh143:Hint true Tryz.prog:=.call 143 (S143) (ok143) none
theorem kc84 (list:List Za) (s:Za) {K_:Prop} (k_:K_):(True)/\(Imp (.l 1 eStr list) (.l 1 eStr list))/\(Imp (.v (.string s)) (.v (.string s)))/\K_:=⟨trivial,Imp.refl _,Imp.refl _,k_⟩
abbrev kh84 (list:List Za) (s:Za):Hint true Tryz.prog:=.call 84 (S84 list s) (ok84 list s) none
def F92_s0 (s:Za):Int->Lp Int Bool:=fun i40 =>
 bif (decide (i40<((F85 s 44).length:Int))) then (bif (bif (!(F84 F143 ((F85 s 44).getD i40.toNat default))) then true else (bif decide (i40>0) then (!(Op.bytesLess ((F85 s 44).getD (i40-1).toNat default).toList ((F85 s 44).getD i40.toNat default).toList)) else false)) then (.ret false) else (.next (i40+1))) else (.done i40)
def F92 (s:Za):Bool :=
 bif (bif (s.toList==Zr.toList) then true else (s.toList==Zu.toList)) then true else ((runL (F92_s0 s) ((((F85 s 44).length:Int)-0).toNat+1) 0).fin (fun r=>r) (fun i40=>true))
abbrev lN92_0 (s:Za):Nat×Int:=(((((F85 s 44).length:Int)-0).toNat+1),0)
abbrev lI92_0 (s:Za) (m39:Nat) (i40:Int):Prop:=Int.toNat (((F85 s 44).length:Int)-i40)<m39/\(0:Int)<=i40
abbrev lX92_0 (s:Za):Lp Int Bool:=LpX (F92_s0 s) (lN92_0 s)
abbrev lJ92_0 (s:Za) (i:Nat×Int):Prop:=LpJ (F92_s0 s) (lN92_0 s) i (lI92_0 s i.1 i.2)
abbrev lH92_0 (s:Za) (i:Nat×Int) (m39:Nat) (i40:Int):Prop:=LpH (F92_s0 s) (lN92_0 s) i m39 i40 (lI92_0 s (m39+1) i40)
abbrev lE92_0 (s:Za) (i40:Int) (i40_:Int) (K39:Prop):Prop:=((.int .i64 i40:Value)=.int .i64 i40_)/\(Im (.l 1 eStr (F85 s 44)))/\K39
theorem un92_0 (s:Za) (i:Nat×Int) (h:lJ92_0 s i):lH92_0 s i (i.1-1) i.2:=⟨hd1 h.1 h.2.1,hd3 h.2.1,hd2 h.2.1,h.2.2⟩
theorem bk92_0 (s:Za) (i:Nat×Int) (m39:Nat) (i40:Int) (hl:m39<i.1) (e:runL (F92_s0 s) m39 i40=lX92_0 s) (h:lI92_0 s m39 i40):∃ j:Nat×Int,lE92_0 s i40 j.2 (lJ92_0 s j/\j.1<i.1):=⟨(m39,i40),rfl,Imp.refl _,⟨e,h⟩,hl⟩
theorem en92_0 (s:Za) (h:(0:Int)<=0):lE92_0 s 0 0 (lJ92_0 s (lN92_0 s)):=⟨rfl,Imp.refl _,rfl,Qr _,h⟩
def S92 (s:Za):Spec:=⟨[.r (.c (.v (.string s)))],.v (.bool (F92 s)),s.size<=1048576⟩
theorem ok92 (s:Za):(S92 s).ok Tryz.prog 92 :=
 fnG_ok mixed (fn:=Tryz.f92) (ct:=.seq .no (.seq (.seq .no (.cond (.seq .no .no) .no)) (.seq (.reg [(1,kh85 s 44)]) (.seq (.seqk [(3,0)] .no (.blk (.loop (ι:=Nat×Int) (fun i=>(fun (i40:Int)=>(⟨[(3,some (.h 0 0)),(4,some (.v (vI i40)))],[(0,some (.own 0 (.l 1 eStr (F85 s 44))))],1⟩:St)) i.2) (lJ92_0 s) (fun i=>i.1) (lN92_0 s) (fun i=>(fun (i40:Int)=>(.seq (.seq .no (.cond .no .no)) (.seq (.blk (.seq (.reg [(0,kh143),(5,kh84 F143 ((F85 s 44).getD i40.toNat default)),(13,.bnd)]) (.cond (.seq .no .no) .no))) (.reg [(1,.bnd)])))) i.2)))) (.seq .no .no))))) Tryz.func92 (fun (hpre0:s.size<=1048576)=>ifb (bif (s.toList==Zr.toList) then true else (s.toList==Zu.toList)) (fun h1=>fiB true (F92 s) (condT h1 rfl)) (fun h1=>have _:(s.toList==Zr.toList)=false:=(orF1 h1); have _:(s.toList==Zu.toList)=false:=(orF2 h1); kc85 s 44 uu0 uu0 (fun gv2=>kn (F85 s 44) fun _=>ai (en92_0 s uu0) (fun (i0:Nat×Int) (hi0:lJ92_0 s i0)=>(fun (m0:Nat) (i40:Int) (hh0:lH92_0 s i0 m0 i40)=>have hI0:=hh0.1; have hl0:=hh0.2.1; have _:=hh0.2.2.1; have _:=hh0.2.2.2; ifd (i40<((F85 s 44).length:Int)) (fun h4 _=>kc143 (ai (uu0:ib i40 (F85 s 44)) (kc84 F143 ((F85 s 44).getD i40.toNat default) (ai (fun k6:(decide (i40>0))=true=>have _:=Qd k6; (fun k5:(!(F84 F143 ((F85 s 44).getD i40.toNat default)))=false=>iok (i40-1) uu0)) (ai (fun k8:(decide (i40>0))=true=>have _:=Qd k8; (fun k7:(!(F84 F143 ((F85 s 44).getD i40.toNat default)))=false=>(uu0:ib (i40-1) (F85 s 44)))) (ai (fun k10:(decide (i40>0))=true=>have _:=Qd k10; (fun k9:(!(F84 F143 ((F85 s 44).getD i40.toNat default)))=false=>(uu0:ib i40 (F85 s 44)))) (ifb (bif (!(F84 F143 ((F85 s 44).getD i40.toNat default))) then true else (bif decide (i40>0) then (!(Op.bytesLess ((F85 s 44).getD (i40-1).toNat default).toList ((F85 s 44).getD i40.toNat default).toList)) else false)) (fun h11=>fiB false (F92 s) (condF h1 (finR (runL_ret hI0 (condT h4 (condT h11 rfl))) rfl))) (fun h11=>ai (iok (i40+1) uu0) (bk92_0 s i0 m0 (i40+1) hl0 (runL_next hI0 (condT h4 (condF h11 rfl))) uu6))))))))) (fun h4 _=>have hD0_12:lX92_0 s=Lp.done i40:=runL_done hI0 (condF h4 rfl); fiB true (F92 s) (condF h1 (finD hD0_12 rfl)))) (i0.1-1) i0.2 (un92_0 s i0 hi0))))) uu3
theorem kc95 (s:Za) {K_:Prop} (p0_:s.size<=1048576) (k_:K_):(s.size<=1048576)/\(Imp (.v (.string s)) (.v (.string s)))/\K_:=⟨p0_,Imp.refl _,k_⟩
theorem kg95 {K_:Prop} (c_ b_:Bool) (s:Za) (p_:c_=b_->s.size<=1048576) (k_:K_):(c_=b_->s.size<=1048576)/\(c_=b_->Imp (.v (.string s)) (.v (.string s)))/\K_:=⟨p_,fun _=>Imp.refl _,k_⟩
abbrev kh95 (s:Za):Hint true Tryz.prog:=.call 95 (S95 s) (ok95 s) none
theorem kc153 (n:Int) {K_:Prop} (p0_:0<=n) (q0_:0<=n) (q1_:n<=16) (k_:(1<=(F153 n)/\(F153 n)<=65536)->(0<=n->n<=16->1<=(F153 n)/\(F153 n)<=65536)->K_):(0<=n)/\(Imp (.v (vI n)) (.v (vI n)))/\K_:=⟨p0_,Imp.refl _,k_ (g153_0 n q0_ q1_) (g153_0 n)⟩
abbrev kh153 (n:Int):Hint true Tryz.prog:=.call 153 (S153 n) (ok153 n) none
def F119 (s:Za):Int×Int :=
 bif (bif (bif (((F85 s 47).length:Int) != 2) then true else decide ((F95 ((F85 s 47).getD (Int.toNat 0) default))<0)) then true else (!(decide (0<=F123 ((F85 s 47).getD (Int.toNat 1) default)/\F123 ((F85 s 47).getD (Int.toNat 1) default)<=16)))) then ((-1),0) else (bif (((F95 ((F85 s 47).getD (Int.toNat 0) default)).tmod (F153 (F123 ((F85 s 47).getD (Int.toNat 1) default)))) != 0) then ((-1),0) else ((F95 ((F85 s 47).getD (Int.toNat 0) default)),(F153 (F123 ((F85 s 47).getD (Int.toNat 1) default)))))
theorem fi119 (s:Za) (r:Int×Int) (hF:r=(F119 s)):((.int .i64 r.1:Value)=.int .i64 (F119 s).1)/\((.int .i64 r.2:Value)=.int .i64 (F119 s).2)/\True:=by cases hF; exact ⟨rfl,rfl,trivial⟩
def S119 (s:Za):Spec:=⟨[.r (.c (.v (.string s)))],.tu [.v (vI (F119 s).1),.v (vI (F119 s).2)],s.size<=1048576⟩
theorem ok119 (s:Za):(S119 s).ok Tryz.prog 119 :=
 fnG_ok mixed (fn:=Tryz.f119) (ct:=.seq .no (.seq (.reg [(1,kh85 s 47)]) (.seq (.seq (.reg [(7,kh95 ((F85 s 47).getD (Int.toNat 0) default)),(14,kh93a ((F85 s 47).getD (Int.toNat 1) default) 0 16)]) (.cond (.seq .no .no) .no)) (.seq (.reg [(3,kh95 ((F85 s 47).getD (Int.toNat 0) default))]) (.seq (.reg [(3,kh123 ((F85 s 47).getD (Int.toNat 1) default)),(4,kh153 (F123 ((F85 s 47).getD (Int.toNat 1) default)))]) (.seq (.seq .no (.cond (.seq .no .no) .no)) (.seq .no .no))))))) Tryz.func119 (fun (hpre0:s.size<=1048576)=>kc85 s 47 uu0 uu0 (fun gv1=>ai (fun k2:(((F85 s 47).length:Int) != 2)=false=>have _:=bneF k2; (uu0:ib 0 (F85 s 47))) (kg95 (((F85 s 47).length:Int) != 2) false ((F85 s 47).getD (Int.toNat 0) default) (fun k3=>have _:=bneF k3; uu43) (ai (fun k4:(bif (((F85 s 47).length:Int) != 2) then true else decide ((F95 ((F85 s 47).getD (Int.toNat 0) default))<0))=false=>have _:=bneF (orF1 k4); have _:=Qv (orF2 k4); (uu0:ib 1 (F85 s 47))) (kg93a (bif (((F85 s 47).length:Int) != 2) then true else decide ((F95 ((F85 s 47).getD (Int.toNat 0) default))<0)) false ((F85 s 47).getD (Int.toNat 1) default) 0 16 (fun k5=>have _:=bneF (orF1 k5); have _:=Qv (orF2 k5); uu43) (ifb (bif (bif (((F85 s 47).length:Int) != 2) then true else decide ((F95 ((F85 s 47).getD (Int.toNat 0) default))<0)) then true else (!(decide (0<=F123 ((F85 s 47).getD (Int.toNat 1) default)/\F123 ((F85 s 47).getD (Int.toNat 1) default)<=16)))) (fun h6=>fi119 s ((-1),0) (condT h6 rfl)) (fun h6=>have _:=bneF (orF1 (orF1 h6)); have _:=Qv (orF2 (orF1 h6)); have _:=Qd (notEF (orF2 h6)); ai (uu0:ib 0 (F85 s 47)) (kc95 ((F85 s 47).getD (Int.toNat 0) default) uu43 (ai (uu0:ib 1 (F85 s 47)) (kc123 ((F85 s 47).getD (Int.toNat 1) default) uu43 (kc153 (F123 ((F85 s 47).getD (Int.toNat 1) default)) uu0 uu0 uu0 (fun gv7 gv8=>ai (uu0:¬ (F153 (F123 ((F85 s 47).getD (Int.toNat 1) default)))=0) (ifn ((F95 ((F85 s 47).getD (Int.toNat 0) default)).tmod (F153 (F123 ((F85 s 47).getD (Int.toNat 1) default)))) 0 (fun h9 _=>fi119 s ((-1),0) (condF h6 (condT h9 rfl))) (fun h9 _=>fi119 s ((F95 ((F85 s 47).getD (Int.toNat 0) default)),(F153 (F123 ((F85 s 47).getD (Int.toNat 1) default)))) (condF h6 (condF h9 rfl)))))))))))))))) uu3
theorem kc119 (s:Za) {K_:Prop} (p0_:s.size<=1048576) (k_:K_):(s.size<=1048576)/\(Imp (.v (.string s)) (.v (.string s)))/\K_:=⟨p0_,Imp.refl _,k_⟩
abbrev kh119 (s:Za):Hint true Tryz.prog:=.call 119 (S119 s) (ok119 s) none
def F94 (s:Za):Bool :=
 decide ((F119 s).1>=0)
def S94 (s:Za):Spec:=⟨[.r (.c (.v (.string s)))],.v (.bool (F94 s)),s.size<=1048576⟩
theorem ok94 (s:Za):(S94 s).ok Tryz.prog 94 :=
 fnG_ok mixed (fn:=Tryz.f94) (ct:=.seq .no (.seq (.reg [(1,kh119 s)]) (.seq .no .no))) Tryz.func94 (fun (hpre0:s.size<=1048576)=>kc119 s uu0 (fiB (decide ((F119 s).1>=0)) (F94 s) rfl)) uu3
theorem kg82 {K_:Prop} (c_ b_:Bool) (s:Za) (p_:c_=b_->s.size<=1048576) (k_:K_):(c_=b_->s.size<=1048576)/\(c_=b_->Imp (.v (.string s)) (.v (.string s)))/\K_:=⟨p_,fun _=>Imp.refl _,k_⟩
abbrev kh82 (s:Za):Hint true Tryz.prog:=.call 82 (S82 s) (ok82 s) none
theorem kg92 {K_:Prop} (c_ b_:Bool) (s:Za) (p_:c_=b_->s.size<=1048576) (k_:K_):(c_=b_->s.size<=1048576)/\(c_=b_->Imp (.v (.string s)) (.v (.string s)))/\K_:=⟨p_,fun _=>Imp.refl _,k_⟩
abbrev kh92 (s:Za):Hint true Tryz.prog:=.call 92 (S92 s) (ok92 s) none
theorem kg94 {K_:Prop} (c_ b_:Bool) (s:Za) (p_:c_=b_->s.size<=1048576) (k_:K_):(c_=b_->s.size<=1048576)/\(c_=b_->Imp (.v (.string s)) (.v (.string s)))/\K_:=⟨p_,fun _=>Imp.refl _,k_⟩
abbrev kh94 (s:Za):Hint true Tryz.prog:=.call 94 (S94 s) (ok94 s) none
def F36 (w1:List Za):Bool :=
 bif ((w1.length:Int)==0) then false else (bif ((w1.getD (Int.toNat 0) default).toList==Zq.toList) then (bif ((w1.length:Int)==2) then (F82 (w1.getD (Int.toNat 1) default)) else false) else (bif ((w1.getD (Int.toNat 0) default).toList==Zk.toList) then (bif (bif ((w1.length:Int)==3) then (F82 (w1.getD (Int.toNat 1) default)) else false) then (F92 (w1.getD (Int.toNat 2) default)) else false) else (bif ((w1.getD (Int.toNat 0) default).toList==Ze.toList) then (bif (bif (bif ((w1.length:Int)==3) then true else (bif (bif ((w1.length:Int)==5) then ((w1.getD (Int.toNat 3) default).toList==Z0.toList) else false) then (F82 (w1.getD (Int.toNat 4) default)) else false)) then (decide (0<=F123 (w1.getD (Int.toNat 1) default)/\F123 (w1.getD (Int.toNat 1) default)<=7)) else false) then (F94 (w1.getD (Int.toNat 2) default)) else false) else (bif ((w1.getD (Int.toNat 0) default).toList==Zg.toList) then (bif (bif (bif (bif (bif (bif ((w1.length:Int)==7) then (F82 (w1.getD (Int.toNat 1) default)) else false) then (decide (0<=F123 (w1.getD (Int.toNat 2) default)/\F123 (w1.getD (Int.toNat 2) default)<=99)) else false) then (bif ((w1.getD (Int.toNat 3) default).toList==Zs.toList) then true else ((w1.getD (Int.toNat 3) default).toList==Zt.toList)) else false) then (F94 (w1.getD (Int.toNat 4) default)) else false) then (F94 (w1.getD (Int.toNat 5) default)) else false) then (decide (0<=F123 (w1.getD (Int.toNat 6) default)/\F123 (w1.getD (Int.toNat 6) default)<=7)) else false) else (bif ((w1.getD (Int.toNat 0) default).toList==Zi.toList) then (bif (bif ((w1.length:Int)==3) then (F94 (w1.getD (Int.toNat 1) default)) else false) then decide ((F95 (w1.getD (Int.toNat 2) default))>=0) else false) else (bif ((w1.getD (Int.toNat 0) default).toList==Zh.toList) then (bif (bif (bif ((w1.length:Int)==4) then decide ((F95 (w1.getD (Int.toNat 1) default))>=0) else false) then (decide (1<=F123 (w1.getD (Int.toNat 2) default)/\F123 (w1.getD (Int.toNat 2) default)<=9)) else false) then (decide (1<=F123 (w1.getD (Int.toNat 3) default)/\F123 (w1.getD (Int.toNat 3) default)<=999999)) else false) else (bif ((w1.getD (Int.toNat 0) default).toList==Zc.toList) then (bif (bif (bif (bif ((w1.length:Int)==5) then (F94 (w1.getD (Int.toNat 1) default)) else false) then decide ((F95 (w1.getD (Int.toNat 2) default))>=0) else false) then (decide (1<=F123 (w1.getD (Int.toNat 3) default)/\F123 (w1.getD (Int.toNat 3) default)<=65535)) else false) then (decide (1<=F123 (w1.getD (Int.toNat 4) default)/\F123 (w1.getD (Int.toNat 4) default)<=65535)) else false) else (bif ((w1.getD (Int.toNat 0) default).toList==Zb.toList) then (bif (bif (bif (bif ((w1.length:Int)==5) then (decide (1<=F123 (w1.getD (Int.toNat 1) default)/\F123 (w1.getD (Int.toNat 1) default)<=7)) else false) then (decide (1<=F123 (w1.getD (Int.toNat 2) default)/\F123 (w1.getD (Int.toNat 2) default)<=65535)) else false) then decide ((F95 (w1.getD (Int.toNat 3) default))>=0) else false) then (decide (1<=F123 (w1.getD (Int.toNat 4) default)/\F123 (w1.getD (Int.toNat 4) default)<=65535)) else false) else false))))))))
def S36 (w1:List Za):Spec:=⟨[.r (.c (.l 1 eStr w1))],.v (.bool (F36 w1)),(∀ k:Nat,(w1.getD k default).size<=1048576)⟩
abbrev q36_1 (w1:List Za):=(w1.getD (Int.toNat 1) default)
abbrev q36_2 (w1:List Za):=(w1.getD (Int.toNat 2) default)
abbrev q36_3 (w1:List Za):=(w1.getD (Int.toNat 3) default)
abbrev q36_4 (w1:List Za):=(w1.getD (Int.toNat 4) default)
abbrev q36_5 (w1:List Za):=(w1.getD (Int.toNat 0) default)
theorem ok36 (w1:List Za):(S36 w1).ok Tryz.prog 36 :=
 fnG_ok mixed (fn:=Tryz.f36) (ct:=.seqk [(0,0)] .no (.seq .no (.seq (.seq .no (.cond (.seq .no .no) .no)) (.seq (.seq .no (.blk (.seq .no (.cond (.seq (.reg [(6,kh82 (q36_1 w1))]) .no) (.seq .no (.cond (.seq (.reg [(6,kh82 (q36_1 w1)),(12,kh92 (q36_2 w1))]) .no) (.seq .no (.cond (.seq (.reg [(15,kh82 (q36_4 w1)),(22,kh93a (q36_1 w1) 0 7),(28,kh94 (q36_2 w1))]) .no) (.seq .no (.cond (.seq (.reg [(6,kh82 (q36_1 w1)),(12,kh93a (q36_2 w1) 0 99),(30,kh94 (q36_4 w1)),(36,kh94 (w1.getD (Int.toNat 5) default)),(42,kh93a (w1.getD (Int.toNat 6) default) 0 7)]) .no) (.seq .no (.cond (.seq (.reg [(6,kh94 (q36_1 w1)),(12,kh95 (q36_2 w1))]) .no) (.seq .no (.cond (.seq (.reg [(6,kh95 (q36_1 w1)),(13,kh93a (q36_2 w1) 1 9),(19,kh93a (q36_3 w1) 1 999999)]) .no) (.seq .no (.cond (.seq (.reg [(6,kh94 (q36_1 w1)),(12,kh95 (q36_2 w1)),(19,kh93a (q36_3 w1) 1 65535),(25,kh93a (q36_4 w1) 1 65535)]) .no) (.seq .no (.cond (.seq (.reg [(6,kh93a (q36_1 w1) 1 7),(12,kh93a (q36_2 w1) 1 65535),(18,kh95 (q36_3 w1)),(25,kh93a (q36_4 w1) 1 65535)]) .no) .no)))))))))))))))))) (.seq .no .no))))) Tryz.func36 (fun (hpre0:∀ k:Nat,(w1.getD k default).size<=1048576)=>kn w1 fun _=>ife (w1.length:Int) 0 (fun h1 _=>fiB false (F36 w1) (condT h1 rfl)) (fun h1 _=>ai (uu8:0<=(0:Int)/\(0:Int)<(w1.length:Int)) (ifb ((q36_5 w1).toList==Zq.toList) (fun h2=>ai (fun k3:((w1.length:Int)==2)=true=>have _:=eq_of_beq k3; (uu8:0<=(1:Int)/\(1:Int)<(w1.length:Int))) (kg82 ((w1.length:Int)==2) true (q36_1 w1) (fun k4=>have _:=eq_of_beq k4; uu10) (fiB (bif ((w1.length:Int)==2) then (F82 (q36_1 w1)) else false) (F36 w1) (condF h1 (condT h2 rfl))))) (fun h2=>ifb ((q36_5 w1).toList==Zk.toList) (fun h5=>ai (fun k6:((w1.length:Int)==3)=true=>have _:=eq_of_beq k6; (uu8:0<=(1:Int)/\(1:Int)<(w1.length:Int))) (kg82 ((w1.length:Int)==3) true (q36_1 w1) (fun k7=>have _:=eq_of_beq k7; uu10) (ai (fun k8:(bif ((w1.length:Int)==3) then (F82 (q36_1 w1)) else false)=true=>have _:=eq_of_beq (andT1 k8); (uu8:0<=(2:Int)/\(2:Int)<(w1.length:Int))) (kg92 (bif ((w1.length:Int)==3) then (F82 (q36_1 w1)) else false) true (q36_2 w1) (fun k9=>have _:=eq_of_beq (andT1 k9); uu10) (fiB (bif (bif ((w1.length:Int)==3) then (F82 (q36_1 w1)) else false) then (F92 (q36_2 w1)) else false) (F36 w1) (condF h1 (condF h2 (condT h5 rfl)))))))) (fun h5=>ifb ((q36_5 w1).toList==Ze.toList) (fun h10=>ai (fun k12:((w1.length:Int)==5)=true=>have _:=eq_of_beq k12; (fun k11:((w1.length:Int)==3)=false=>have _:=beqF k11; (uu8:0<=(3:Int)/\(3:Int)<(w1.length:Int)))) (ai (fun k14:(bif ((w1.length:Int)==5) then ((q36_3 w1).toList==Z0.toList) else false)=true=>have _:=eq_of_beq (andT1 k14); have _:((q36_3 w1).toList==Z0.toList)=true:=(andT2 k14); (fun k13:((w1.length:Int)==3)=false=>have _:=beqF k13; (uu8:0<=(4:Int)/\(4:Int)<(w1.length:Int)))) (ai (fun k16:(bif ((w1.length:Int)==5) then ((q36_3 w1).toList==Z0.toList) else false)=true=>have _:=eq_of_beq (andT1 k16); have _:((q36_3 w1).toList==Z0.toList)=true:=(andT2 k16); (fun k15:((w1.length:Int)==3)=false=>have _:=beqF k15; (uu10:(q36_4 w1).size<=1048576))) (ai (fun k18:(bif ((w1.length:Int)==5) then ((q36_3 w1).toList==Z0.toList) else false)=true=>have _:=eq_of_beq (andT1 k18); have _:((q36_3 w1).toList==Z0.toList)=true:=(andT2 k18); (fun k17:((w1.length:Int)==3)=false=>have _:=beqF k17; (Imp.refl (.v (.string (q36_4 w1)))))) (ai (fun k19:(bif ((w1.length:Int)==3) then true else (bif (bif ((w1.length:Int)==5) then ((q36_3 w1).toList==Z0.toList) else false) then (F82 (q36_4 w1)) else false))=true=>(uu65:0<=(1:Int)/\(1:Int)<(w1.length:Int))) (kg93a (bif ((w1.length:Int)==3) then true else (bif (bif ((w1.length:Int)==5) then ((q36_3 w1).toList==Z0.toList) else false) then (F82 (q36_4 w1)) else false)) true (q36_1 w1) 0 7 (fun k20=>uu10) (ai (fun k21:(bif (bif ((w1.length:Int)==3) then true else (bif (bif ((w1.length:Int)==5) then ((q36_3 w1).toList==Z0.toList) else false) then (F82 (q36_4 w1)) else false)) then (decide (0<=F123 (q36_1 w1)/\F123 (q36_1 w1)<=7)) else false)=true=>have _:=Qd (andT2 k21); (uu65:0<=(2:Int)/\(2:Int)<(w1.length:Int))) (kg94 (bif (bif ((w1.length:Int)==3) then true else (bif (bif ((w1.length:Int)==5) then ((q36_3 w1).toList==Z0.toList) else false) then (F82 (q36_4 w1)) else false)) then (decide (0<=F123 (q36_1 w1)/\F123 (q36_1 w1)<=7)) else false) true (q36_2 w1) (fun k22=>have _:=Qd (andT2 k22); uu10) (fiB (bif (bif (bif ((w1.length:Int)==3) then true else (bif (bif ((w1.length:Int)==5) then ((q36_3 w1).toList==Z0.toList) else false) then (F82 (q36_4 w1)) else false)) then (decide (0<=F123 (q36_1 w1)/\F123 (q36_1 w1)<=7)) else false) then (F94 (q36_2 w1)) else false) (F36 w1) (condF h1 (condF h2 (condF h5 (condT h10 rfl))))))))))))) (fun h10=>ifb ((q36_5 w1).toList==Zg.toList) (fun h23=>ai (fun k24:((w1.length:Int)==7)=true=>have _:=eq_of_beq k24; (uu8:0<=(1:Int)/\(1:Int)<(w1.length:Int))) (kg82 ((w1.length:Int)==7) true (q36_1 w1) (fun k25=>have _:=eq_of_beq k25; uu10) (ai (fun k26:(bif ((w1.length:Int)==7) then (F82 (q36_1 w1)) else false)=true=>have _:=eq_of_beq (andT1 k26); (uu8:0<=(2:Int)/\(2:Int)<(w1.length:Int))) (kg93a (bif ((w1.length:Int)==7) then (F82 (q36_1 w1)) else false) true (q36_2 w1) 0 99 (fun k27=>have _:=eq_of_beq (andT1 k27); uu10) (ai (fun k28:(bif (bif ((w1.length:Int)==7) then (F82 (q36_1 w1)) else false) then (decide (0<=F123 (q36_2 w1)/\F123 (q36_2 w1)<=99)) else false)=true=>have _:=eq_of_beq (andT1 (andT1 k28)); have _:=Qd (andT2 k28); (uu8:0<=(3:Int)/\(3:Int)<(w1.length:Int))) (ai (fun k30:((q36_3 w1).toList==Zs.toList)=false=>(fun k29:(bif (bif ((w1.length:Int)==7) then (F82 (q36_1 w1)) else false) then (decide (0<=F123 (q36_2 w1)/\F123 (q36_2 w1)<=99)) else false)=true=>have _:=eq_of_beq (andT1 (andT1 k29)); have _:=Qd (andT2 k29); (uu8:0<=(3:Int)/\(3:Int)<(w1.length:Int)))) (ai (fun k31:(bif (bif (bif ((w1.length:Int)==7) then (F82 (q36_1 w1)) else false) then (decide (0<=F123 (q36_2 w1)/\F123 (q36_2 w1)<=99)) else false) then (bif ((q36_3 w1).toList==Zs.toList) then true else ((q36_3 w1).toList==Zt.toList)) else false)=true=>have _:=eq_of_beq (andT1 (andT1 (andT1 k31))); have _:=Qd (andT2 (andT1 k31)); (uu8:0<=(4:Int)/\(4:Int)<(w1.length:Int))) (kg94 (bif (bif (bif ((w1.length:Int)==7) then (F82 (q36_1 w1)) else false) then (decide (0<=F123 (q36_2 w1)/\F123 (q36_2 w1)<=99)) else false) then (bif ((q36_3 w1).toList==Zs.toList) then true else ((q36_3 w1).toList==Zt.toList)) else false) true (q36_4 w1) (fun k32=>have _:=eq_of_beq (andT1 (andT1 (andT1 k32))); have _:=Qd (andT2 (andT1 k32)); uu10) (ai (fun k33:(bif (bif (bif (bif ((w1.length:Int)==7) then (F82 (q36_1 w1)) else false) then (decide (0<=F123 (q36_2 w1)/\F123 (q36_2 w1)<=99)) else false) then (bif ((q36_3 w1).toList==Zs.toList) then true else ((q36_3 w1).toList==Zt.toList)) else false) then (F94 (q36_4 w1)) else false)=true=>have _:=eq_of_beq (andT1 (andT1 (andT1 (andT1 k33)))); have _:=Qd (andT2 (andT1 (andT1 k33))); (uu8:0<=(5:Int)/\(5:Int)<(w1.length:Int))) (kg94 (bif (bif (bif (bif ((w1.length:Int)==7) then (F82 (q36_1 w1)) else false) then (decide (0<=F123 (q36_2 w1)/\F123 (q36_2 w1)<=99)) else false) then (bif ((q36_3 w1).toList==Zs.toList) then true else ((q36_3 w1).toList==Zt.toList)) else false) then (F94 (q36_4 w1)) else false) true (w1.getD (Int.toNat 5) default) (fun k34=>have _:=eq_of_beq (andT1 (andT1 (andT1 (andT1 k34)))); have _:=Qd (andT2 (andT1 (andT1 k34))); uu10) (ai (fun k35:(bif (bif (bif (bif (bif ((w1.length:Int)==7) then (F82 (q36_1 w1)) else false) then (decide (0<=F123 (q36_2 w1)/\F123 (q36_2 w1)<=99)) else false) then (bif ((q36_3 w1).toList==Zs.toList) then true else ((q36_3 w1).toList==Zt.toList)) else false) then (F94 (q36_4 w1)) else false) then (F94 (w1.getD (Int.toNat 5) default)) else false)=true=>have _:=eq_of_beq (andT1 (andT1 (andT1 (andT1 (andT1 k35))))); have _:=Qd (andT2 (andT1 (andT1 (andT1 k35)))); (uu8:0<=(6:Int)/\(6:Int)<(w1.length:Int))) (kg93a (bif (bif (bif (bif (bif ((w1.length:Int)==7) then (F82 (q36_1 w1)) else false) then (decide (0<=F123 (q36_2 w1)/\F123 (q36_2 w1)<=99)) else false) then (bif ((q36_3 w1).toList==Zs.toList) then true else ((q36_3 w1).toList==Zt.toList)) else false) then (F94 (q36_4 w1)) else false) then (F94 (w1.getD (Int.toNat 5) default)) else false) true (w1.getD (Int.toNat 6) default) 0 7 (fun k36=>have _:=eq_of_beq (andT1 (andT1 (andT1 (andT1 (andT1 k36))))); have _:=Qd (andT2 (andT1 (andT1 (andT1 k36)))); uu10) (fiB (bif (bif (bif (bif (bif (bif ((w1.length:Int)==7) then (F82 (q36_1 w1)) else false) then (decide (0<=F123 (q36_2 w1)/\F123 (q36_2 w1)<=99)) else false) then (bif ((q36_3 w1).toList==Zs.toList) then true else ((q36_3 w1).toList==Zt.toList)) else false) then (F94 (q36_4 w1)) else false) then (F94 (w1.getD (Int.toNat 5) default)) else false) then (decide (0<=F123 (w1.getD (Int.toNat 6) default)/\F123 (w1.getD (Int.toNat 6) default)<=7)) else false) (F36 w1) (condF h1 (condF h2 (condF h5 (condF h10 (condT h23 rfl)))))))))))))))))) (fun h23=>ifb ((q36_5 w1).toList==Zi.toList) (fun h37=>ai (fun k38:((w1.length:Int)==3)=true=>have _:=eq_of_beq k38; (uu8:0<=(1:Int)/\(1:Int)<(w1.length:Int))) (kg94 ((w1.length:Int)==3) true (q36_1 w1) (fun k39=>have _:=eq_of_beq k39; uu10) (ai (fun k40:(bif ((w1.length:Int)==3) then (F94 (q36_1 w1)) else false)=true=>have _:=eq_of_beq (andT1 k40); (uu8:0<=(2:Int)/\(2:Int)<(w1.length:Int))) (kg95 (bif ((w1.length:Int)==3) then (F94 (q36_1 w1)) else false) true (q36_2 w1) (fun k41=>have _:=eq_of_beq (andT1 k41); uu10) (fiB (bif (bif ((w1.length:Int)==3) then (F94 (q36_1 w1)) else false) then decide ((F95 (q36_2 w1))>=0) else false) (F36 w1) (condF h1 (condF h2 (condF h5 (condF h10 (condF h23 (condT h37 rfl))))))))))) (fun h37=>ifb ((q36_5 w1).toList==Zh.toList) (fun h42=>ai (fun k43:((w1.length:Int)==4)=true=>have _:=eq_of_beq k43; (uu8:0<=(1:Int)/\(1:Int)<(w1.length:Int))) (kg95 ((w1.length:Int)==4) true (q36_1 w1) (fun k44=>have _:=eq_of_beq k44; uu10) (ai (fun k45:(bif ((w1.length:Int)==4) then decide ((F95 (q36_1 w1))>=0) else false)=true=>have _:=eq_of_beq (andT1 k45); have _:=Qd (andT2 k45); (uu8:0<=(2:Int)/\(2:Int)<(w1.length:Int))) (kg93a (bif ((w1.length:Int)==4) then decide ((F95 (q36_1 w1))>=0) else false) true (q36_2 w1) 1 9 (fun k46=>have _:=eq_of_beq (andT1 k46); have _:=Qd (andT2 k46); uu10) (ai (fun k47:(bif (bif ((w1.length:Int)==4) then decide ((F95 (q36_1 w1))>=0) else false) then (decide (1<=F123 (q36_2 w1)/\F123 (q36_2 w1)<=9)) else false)=true=>have _:=eq_of_beq (andT1 (andT1 k47)); have _:=Qd (andT2 (andT1 k47)); have _:=Qd (andT2 k47); (uu8:0<=(3:Int)/\(3:Int)<(w1.length:Int))) (kg93a (bif (bif ((w1.length:Int)==4) then decide ((F95 (q36_1 w1))>=0) else false) then (decide (1<=F123 (q36_2 w1)/\F123 (q36_2 w1)<=9)) else false) true (q36_3 w1) 1 999999 (fun k48=>have _:=eq_of_beq (andT1 (andT1 k48)); have _:=Qd (andT2 (andT1 k48)); have _:=Qd (andT2 k48); uu10) (fiB (bif (bif (bif ((w1.length:Int)==4) then decide ((F95 (q36_1 w1))>=0) else false) then (decide (1<=F123 (q36_2 w1)/\F123 (q36_2 w1)<=9)) else false) then (decide (1<=F123 (q36_3 w1)/\F123 (q36_3 w1)<=999999)) else false) (F36 w1) (condF h1 (condF h2 (condF h5 (condF h10 (condF h23 (condF h37 (condT h42 rfl)))))))))))))) (fun h42=>ifb ((q36_5 w1).toList==Zc.toList) (fun h49=>ai (fun k50:((w1.length:Int)==5)=true=>have _:=eq_of_beq k50; (uu8:0<=(1:Int)/\(1:Int)<(w1.length:Int))) (kg94 ((w1.length:Int)==5) true (q36_1 w1) (fun k51=>have _:=eq_of_beq k51; uu10) (ai (fun k52:(bif ((w1.length:Int)==5) then (F94 (q36_1 w1)) else false)=true=>have _:=eq_of_beq (andT1 k52); (uu8:0<=(2:Int)/\(2:Int)<(w1.length:Int))) (kg95 (bif ((w1.length:Int)==5) then (F94 (q36_1 w1)) else false) true (q36_2 w1) (fun k53=>have _:=eq_of_beq (andT1 k53); uu10) (ai (fun k54:(bif (bif ((w1.length:Int)==5) then (F94 (q36_1 w1)) else false) then decide ((F95 (q36_2 w1))>=0) else false)=true=>have _:=eq_of_beq (andT1 (andT1 k54)); have _:=Qd (andT2 k54); (uu8:0<=(3:Int)/\(3:Int)<(w1.length:Int))) (kg93a (bif (bif ((w1.length:Int)==5) then (F94 (q36_1 w1)) else false) then decide ((F95 (q36_2 w1))>=0) else false) true (q36_3 w1) 1 65535 (fun k55=>have _:=eq_of_beq (andT1 (andT1 k55)); have _:=Qd (andT2 k55); uu10) (ai (fun k56:(bif (bif (bif ((w1.length:Int)==5) then (F94 (q36_1 w1)) else false) then decide ((F95 (q36_2 w1))>=0) else false) then (decide (1<=F123 (q36_3 w1)/\F123 (q36_3 w1)<=65535)) else false)=true=>have _:=eq_of_beq (andT1 (andT1 (andT1 k56))); have _:=Qd (andT2 (andT1 k56)); have _:=Qd (andT2 k56); (uu8:0<=(4:Int)/\(4:Int)<(w1.length:Int))) (kg93a (bif (bif (bif ((w1.length:Int)==5) then (F94 (q36_1 w1)) else false) then decide ((F95 (q36_2 w1))>=0) else false) then (decide (1<=F123 (q36_3 w1)/\F123 (q36_3 w1)<=65535)) else false) true (q36_4 w1) 1 65535 (fun k57=>have _:=eq_of_beq (andT1 (andT1 (andT1 k57))); have _:=Qd (andT2 (andT1 k57)); have _:=Qd (andT2 k57); uu10) (fiB (bif (bif (bif (bif ((w1.length:Int)==5) then (F94 (q36_1 w1)) else false) then decide ((F95 (q36_2 w1))>=0) else false) then (decide (1<=F123 (q36_3 w1)/\F123 (q36_3 w1)<=65535)) else false) then (decide (1<=F123 (q36_4 w1)/\F123 (q36_4 w1)<=65535)) else false) (F36 w1) (condF h1 (condF h2 (condF h5 (condF h10 (condF h23 (condF h37 (condF h42 (condT h49 rfl))))))))))))))))) (fun h49=>ifb ((q36_5 w1).toList==Zb.toList) (fun h58=>ai (fun k59:((w1.length:Int)==5)=true=>have _:=eq_of_beq k59; (uu8:0<=(1:Int)/\(1:Int)<(w1.length:Int))) (kg93a ((w1.length:Int)==5) true (q36_1 w1) 1 7 (fun k60=>have _:=eq_of_beq k60; uu10) (ai (fun k61:(bif ((w1.length:Int)==5) then (decide (1<=F123 (q36_1 w1)/\F123 (q36_1 w1)<=7)) else false)=true=>have _:=eq_of_beq (andT1 k61); have _:=Qd (andT2 k61); (uu8:0<=(2:Int)/\(2:Int)<(w1.length:Int))) (kg93a (bif ((w1.length:Int)==5) then (decide (1<=F123 (q36_1 w1)/\F123 (q36_1 w1)<=7)) else false) true (q36_2 w1) 1 65535 (fun k62=>have _:=eq_of_beq (andT1 k62); have _:=Qd (andT2 k62); uu10) (ai (fun k63:(bif (bif ((w1.length:Int)==5) then (decide (1<=F123 (q36_1 w1)/\F123 (q36_1 w1)<=7)) else false) then (decide (1<=F123 (q36_2 w1)/\F123 (q36_2 w1)<=65535)) else false)=true=>have _:=eq_of_beq (andT1 (andT1 k63)); have _:=Qd (andT2 (andT1 k63)); have _:=Qd (andT2 k63); (uu8:0<=(3:Int)/\(3:Int)<(w1.length:Int))) (kg95 (bif (bif ((w1.length:Int)==5) then (decide (1<=F123 (q36_1 w1)/\F123 (q36_1 w1)<=7)) else false) then (decide (1<=F123 (q36_2 w1)/\F123 (q36_2 w1)<=65535)) else false) true (q36_3 w1) (fun k64=>have _:=eq_of_beq (andT1 (andT1 k64)); have _:=Qd (andT2 (andT1 k64)); have _:=Qd (andT2 k64); uu10) (ai (fun k65:(bif (bif (bif ((w1.length:Int)==5) then (decide (1<=F123 (q36_1 w1)/\F123 (q36_1 w1)<=7)) else false) then (decide (1<=F123 (q36_2 w1)/\F123 (q36_2 w1)<=65535)) else false) then decide ((F95 (q36_3 w1))>=0) else false)=true=>have _:=eq_of_beq (andT1 (andT1 (andT1 k65))); have _:=Qd (andT2 (andT1 (andT1 k65))); have _:=Qd (andT2 (andT1 k65)); have _:=Qd (andT2 k65); (uu8:0<=(4:Int)/\(4:Int)<(w1.length:Int))) (kg93a (bif (bif (bif ((w1.length:Int)==5) then (decide (1<=F123 (q36_1 w1)/\F123 (q36_1 w1)<=7)) else false) then (decide (1<=F123 (q36_2 w1)/\F123 (q36_2 w1)<=65535)) else false) then decide ((F95 (q36_3 w1))>=0) else false) true (q36_4 w1) 1 65535 (fun k66=>have _:=eq_of_beq (andT1 (andT1 (andT1 k66))); have _:=Qd (andT2 (andT1 (andT1 k66))); have _:=Qd (andT2 (andT1 k66)); have _:=Qd (andT2 k66); uu10) (fiB (bif (bif (bif (bif ((w1.length:Int)==5) then (decide (1<=F123 (q36_1 w1)/\F123 (q36_1 w1)<=7)) else false) then (decide (1<=F123 (q36_2 w1)/\F123 (q36_2 w1)<=65535)) else false) then decide ((F95 (q36_3 w1))>=0) else false) then (decide (1<=F123 (q36_4 w1)/\F123 (q36_4 w1)<=65535)) else false) (F36 w1) (condF h1 (condF h2 (condF h5 (condF h10 (condF h23 (condF h37 (condF h42 (condF h49 (condT h58 rfl)))))))))))))))))) (fun h58=>fiB false (F36 w1) (condF h1 (condF h2 (condF h5 (condF h10 (condF h23 (condF h37 (condF h42 (condF h49 (condF h58 rfl)))))))))))))))))))) uu3
def F37_s0 (list:List Za) (with':Za):(Za×Int)->Lp (Za×Int) Za:=fun (out,i40) =>
 bif (decide (i40<(list.length:Int))) then (bif (decide (i40>0)) then (.next (((out++with')++(list.getD i40.toNat default)),(i40+1))) else (.next ((out++(list.getD i40.toNat default)),(i40+1)))) else (.done (out,i40))
def F37 (list:List Za) (with':Za):Za :=
 (runL (F37_s0 list with') (((list.length:Int)-0).toNat+1) (Zf,0)).fin (fun r=>r) (fun (out,i40)=>out)
abbrev lN37_0 (list:List Za):Nat×(Za×Int):=((((list.length:Int)-0).toNat+1),(Zf,0))
abbrev lI37_0 (list:List Za) (m39:Nat) (out:Za) (i40:Int):Prop:=Int.toNat ((list.length:Int)-i40)<m39/\(out.size:Int)<=i40*1048577/\(0:Int)<=i40
abbrev lX37_0 (list:List Za) (with':Za):Lp (Za×Int) Za:=LpX (F37_s0 list with') (lN37_0 list)
abbrev lJ37_0 (list:List Za) (with':Za) (i:Nat×(Za×Int)):Prop:=LpJ (F37_s0 list with') (lN37_0 list) i (lI37_0 list i.1 i.2.1 i.2.2)
abbrev lH37_0 (list:List Za) (with':Za) (i:Nat×(Za×Int)) (m39:Nat) (out:Za) (i40:Int):Prop:=LpH (F37_s0 list with') (lN37_0 list) i m39 (out,i40) (lI37_0 list (m39+1) out i40)
abbrev lE37_0 (list:List Za) (with':Za) (out:Za) (i40:Int) (out_:Za) (i40_:Int) (K39:Prop):Prop:=(Rf (.string with'))/\((.string out:Value)=.string out_)/\((.int .i64 i40:Value)=.int .i64 i40_)/\(Im (.l 1 eStr list))/\K39
theorem un37_0 (list:List Za) (with':Za) (i:Nat×(Za×Int)) (h:lJ37_0 list with' i):lH37_0 list with' i (i.1-1) i.2.1 i.2.2:=⟨hd1 h.1 h.2.1,hd3 h.2.1,hd2 h.2.1,h.2.2⟩
theorem bk37_0 (list:List Za) (with':Za) (i:Nat×(Za×Int)) (m39:Nat) (out:Za) (i40:Int) (hl:m39<i.1) (e:runL (F37_s0 list with') m39 (out,i40)=lX37_0 list with') (h:lI37_0 list m39 out i40):∃ j:Nat×(Za×Int),lE37_0 list with' out i40 j.2.1 j.2.2 (lJ37_0 list with' j/\j.1<i.1):=⟨(m39,(out,i40)),rfl,rfl,rfl,Imp.refl _,⟨e,h⟩,hl⟩
theorem en37_0 (list:List Za) (with':Za) (h:(Zf.size:Int)<=0*1048577/\(0:Int)<=0):lE37_0 list with' Zf 0 Zf 0 (lJ37_0 list with' (lN37_0 list)):=⟨rfl,rfl,rfl,Imp.refl _,rfl,Qr _,h⟩
def S37 (list:List Za) (with':Za):Spec:=⟨[.r (.c (.l 1 eStr list)),.r (.c (.v (.string with')))],.v (.string (F37 list with')),list.length<=8/\(∀ k:Nat,(list.getD k default).size<=1048576)/\with'.size<=1⟩
theorem ok37 (list:List Za) (with':Za):(S37 list with').ok Tryz.prog 37 :=
 fnG_ok mixed (fn:=Tryz.f37) (ct:=.seqk [(0,0)] .no (.seq .no (.seq (.seqk [(0,0)] .no (.blk (.loop (ι:=Nat×(Za×Int)) (fun i=>(fun (out:Za) (i40:Int)=>(⟨[(0,some (.h 0 0)),(1,some (.v (.string with'))),(5,some (.v (.string out))),(6,some (.v (vI i40)))],[(0,some (.shr none (.l 1 eStr list)))],1⟩:St)) i.2.1 i.2.2) (lJ37_0 list with') (fun i=>i.1) (lN37_0 list) (fun i=>(fun (out:Za) (i40:Int)=>(.seq (.seq .no (.cond .no .no)) (.seq (.blk (.seq (.seq .no (.cond .no .no)) .no)) (.reg [(1,.bnd)])))) i.2.1 i.2.2)))) (.seq .no .no)))) Tryz.func37 (fun (hp:list.length<=8/\(∀ k:Nat,(list.getD k default).size<=1048576)/\with'.size<=1)=>have hpre0:=hp.1; have hpre1:=hp.2.1; have hpre2:=hp.2.2; kn list fun _=>kn list fun _=>ai (en37_0 list with' (by refine ⟨?_,?_⟩ <;> ((try simp only [size_app,sz0] at *); omega))) (fun (i0:Nat×(Za×Int)) (hi0:lJ37_0 list with' i0)=>(fun (m0:Nat) (out:Za) (i40:Int) (hh0:lH37_0 list with' i0 m0 out i40)=>have hI0:=hh0.1; have hl0:=hh0.2.1; have _:=hh0.2.2.1; have _:=hh0.2.2.2; ifd (i40<(list.length:Int)) (fun h2 _=>ifd (i40>0) (fun h3 _=>ai (uu54:((out.size+with'.size:Nat):Int)<=9223372036854775807) (ai (uu0:ib i40 list) (ai (uu54:(((out++with').size+(list.getD i40.toNat default).size:Nat):Int)<=9223372036854775807) (ai (iok (i40+1) uu0) (bk37_0 list with' i0 m0 ((out++with')++(list.getD i40.toNat default)) (i40+1) hl0 (runL_next hI0 (condT h2 (condT h3 rfl))) uu66))))) (fun h3 _=>ai (uu0:ib i40 list) (ai (uu54:((out.size+(list.getD i40.toNat default).size:Nat):Int)<=9223372036854775807) (ai (iok (i40+1) uu0) (bk37_0 list with' i0 m0 (out++(list.getD i40.toNat default)) (i40+1) hl0 (runL_next hI0 (condT h2 (condF h3 rfl))) uu66))))) (fun h2 _=>have hD0_4:lX37_0 list with'=Lp.done (out,i40):=runL_done hI0 (condF h2 rfl); fiS out (F37 list with') (finD hD0_4 rfl))) (i0.1-1) i0.2.1 i0.2.2 (un37_0 list with' i0 hi0))) uu3
def isDig (b:UInt8):Bool:=decide (48<=b.toNat/\b.toNat<=57)
def valL (acc:Nat) (l:List UInt8):Nat:=l.foldl (fun a b=>a*10+(b.toNat-48)) acc
theorem valL_snoc (acc:Nat) (l:List UInt8) (b:UInt8):valL acc (l++[b])=valL acc l*10+(b.toNat-48):=by
 simp [valL,List.foldl_append]
def neatN (l:List UInt8):Bool:=!l.isEmpty&&l.all isDig&&!(decide (l.length>1)&&(l.getD 0 0==48))
theorem valL_ge:∀ (l:List UInt8) (acc:Nat),acc<=valL acc l
 | [],acc=>Qn _
 | b :: l,acc=>Q0 uu0 (valL_ge l (acc*10+(b.toNat-48)))
theorem dig_of {b:UInt8} (h:isDig b=true):48<=b.toNat/\b.toNat<=57:=Qd h
theorem ofNat_dig {b:UInt8} (h:isDig b=true):UInt8.ofNat (48+(b.toNat-48))=b:=by
 have:=dig_of h
 rw [show 48+(b.toNat-48)=b.toNat by omega]
 exact UInt8.ofNat_toNat
theorem neatN_pos {b:UInt8} {l:List UInt8} (h:neatN (b :: l)=true) (hl:l≠[]):1<=valL 0 (b :: l):=by
 unfold neatN at h
 simp only [Qo,Gs,Rz] at h
 obtain ⟨⟨_,hb,_⟩,h0⟩:=h
 have hd:=dig_of hb
 have hlen:decide ((b :: l).length>1)=true:=Qs (by
  cases l with
  | nil=>exact absurd rfl hl
  | cons a l=>simp)
 rw [hlen,Sm] at h0
 have hne:b≠48:=by
  have:(b==48)=false:=h0
  exact Qw.1 this
 have h48:b.toNat≠48:=fun e=>hne (UInt8.toNat_inj.1 e)
 refine Q0 ?_ (valL_ge l (0*10+(b.toNat-48)))
 omega
theorem neat_init {l:List UInt8} {b:UInt8} (hl:l≠[]) (h:neatN (l++[b])=true):neatN l=true:=by
 unfold neatN at h ⊢
 simp only [Qo,Gs,G4] at h ⊢
 obtain ⟨⟨_,ha,_⟩,h0⟩:=h
 cases l with
 | nil=>exact absurd rfl hl
 | cons a l =>
  refine ⟨⟨rfl,ha⟩,?_⟩
  have hlen:decide ((a :: l++[b]).length>1)=true:=Qs uu14
  rw [hlen,Sm] at h0
  have:(a==48)=false:=h0
  have e:((a :: l).getD 0 0==(48:UInt8))=false:=this
  rw [e,Sj]
theorem dec_val:∀ (n:Nat) (l:List UInt8),l.length=n->neatN l=true->Lib.decDigits (valL 0 l)=l
 | 0,l,hn,h=>by
  rw [List.length_eq_zero_iff.1 hn] at h; cases h
 | n+1,l,hn,h=>by
  have hne:l≠[]:=fun e=>by rw [e] at hn; cases hn
  obtain ⟨i,b,rfl⟩:∃ i b,l=i++[b]:=⟨l.dropLast,l.getLast hne,(List.dropLast_concat_getLast hne).symm⟩
  have hdb:isDig b=true:=by
   unfold neatN at h
   simp only [Qo,G4,Rz] at h
   exact h.1.2.2.1
  have hb:=dig_of hdb
  rw [valL_snoc]
  by_cases hi:i=[]
  ·subst hi
   have e:valL 0 ([]:List UInt8)*10+(b.toNat-48)=b.toNat-48:=by simp [valL]
   rw [e,Lib.decDigits_one uu0,ofNat_dig hdb]; rfl
  ·have hin:=neat_init hi h
   have hpos:1<=valL 0 i*10+(b.toNat-48):=by
    cases i with
    | nil=>exact absurd rfl hi
    | cons a i =>
     have:=neatN_pos (b:=a) (l:=i++[b]) h uu14
     have e:=valL_snoc 0 (a :: i) b
     rw [Sv] at e
     omega
   have hip:1<=valL 0 i:=by
    cases i with
    | nil=>exact absurd rfl hi
    | cons a i =>
     by_cases hi2:i=[]
     ·subst hi2
      have h0:=h
      unfold neatN at h0
      simp only [Qo,Gs,G4,Rz] at h0
      have hd:=dig_of h0.1.2.1.1
      have h1:(a==48)=false:=by
       have:=h0.2
       rw [show decide (([a]++[b]).length>1)=true from rfl,Sm] at this
       exact this
      have h48:a.toNat≠48:=fun e=>Qw.1 h1 (UInt8.toNat_inj.1 e)
      simp only [valL,Sy,List.foldl_nil]
      omega
     ·exact neatN_pos hin hi2
   rw [Lib.decDigits,dif_neg uu0]
   have e1:(valL 0 i*10+(b.toNat-48)) / 10=valL 0 i:=by omega
   have e2:(valL 0 i*10+(b.toNat-48))%10=b.toNat-48:=by omega
   have hlen:i.length=n:=by
    rw [Qu] at hn
    simpa using hn
   rw [e1,e2,dec_val n i hlen hin,ofNat_dig hdb]
theorem dec_dig (u:Nat) (h:u<10):isDig (UInt8.ofNat (48+u))=true:=by
 unfold isDig
 rw [UInt8.toNat_ofNat']
 exact Qs uu0
theorem dec_facts:∀ (n u:Nat),u<=n->Lib.decDigits u≠[]/\(Lib.decDigits u).all isDig=true/\(1<=u->(Lib.decDigits u).getD 0 0≠48)
 | n,u,hu=>by
  by_cases h:u<10
  ·rw [Lib.decDigits_one h]
   refine ⟨by simp,by rw [Rz,dec_dig u h]; rfl,fun h1 e=>?_⟩
   have e1:UInt8.ofNat (48+u)=48:=e
   have:=Qh UInt8.toNat e1
   rw [UInt8.toNat_ofNat'] at this
   have h48:(48:UInt8).toNat=48:=rfl
   omega
  ·cases n with
   | zero=>omega
   | succ n =>
    obtain ⟨h1,h2,h3⟩:=dec_facts n (u / 10) uu0
    rw [Lib.decDigits,dif_neg h]
    refine ⟨by simp,by rw [G4,h2,Rz,dec_dig _ uu0]; rfl,fun _=>?_⟩
    cases hd:Lib.decDigits (u / 10) with
    | nil=>exact absurd hd h1
    | cons a l =>
     rw [hd] at h3
     exact h3 uu0
theorem dec_neat (u:Nat):neatN (Lib.decDigits u)=true:=by
 obtain ⟨h1,h2,h3⟩:=dec_facts u u (Qn _)
 unfold neatN
 have e1:(Lib.decDigits u).isEmpty=false:=by
  cases hd:Lib.decDigits u with
  | nil=>exact absurd hd h1
  | cons a l=>rfl
 rw [e1,h2]
 by_cases hu:1<=u
 ·have e:((Lib.decDigits u).getD 0 0==(48:UInt8))=false:=Qw.2 (h3 hu)
  rw [e,Sj]; rfl
 ·have e:Lib.decDigits u=[UInt8.ofNat (48+u)]:=Lib.decDigits_one uu0
  rw [e]; rfl
theorem parse_val:∀ (l:List UInt8) (acc:Nat),l.all isDig=true->(acc+1)*10 ^ l.length<=1000000000000000000->Lib.parseUint10 acc l=.ok (valL acc l)
 | [],acc,_,_=>rfl
 | b :: l,acc,h,hb=>by
  rw [Rz,Qo] at h
  have hd:=dig_of h.1
  have hp:1<=10 ^ l.length:=Nat.one_le_pow _ _ uu0
  have e:(acc+1)*10 ^ (b :: l).length=((acc+1)*10)*10 ^ l.length:=by
   rw [Qx,Nat.pow_succ,Gq (10 ^ l.length) 10,Nat.mul_assoc]
  rw [e] at hb
  have h1:(acc+1)*10<=1000000000000000000:=Q0 (Gw _ hp) hb
  rw [Lib.parseUint10,if_pos hd,if_neg uu0,if_neg uu0]
  exact parse_val l _ h.2 (Q0 (Ra _ uu0) hb)
theorem valL_lt:∀ (l:List UInt8) (acc:Nat),l.all isDig=true->valL acc l<(acc+1)*10 ^ l.length
 | [],acc,_=>by simp [valL]
 | b :: l,acc,h=>by
  rw [Rz,Qo] at h
  have hd:=dig_of h.1
  have e:(acc+1)*10 ^ (b :: l).length=((acc+1)*10)*10 ^ l.length:=by
   rw [Qx,Nat.pow_succ,Gq (10 ^ l.length) 10,Nat.mul_assoc]
  rw [e]
  exact Rv (valL_lt l (acc*10+(b.toNat-48)) h.2) (Ra _ uu0)
def num6 (l:List UInt8):Int:=bif neatN l&&decide (l.length<=6) then (valL 0 l:Int) else -1
theorem itoa_nn (v:Int) (h:0<=v):Lib.itoa v=Lib.decDigits v.toNat:=by
 unfold Lib.itoa
 rw [if_neg uu0]
theorem decN_six (s:Za) (h:s.size<=6):decN s=num6 s.data.toList:=by
 have hl:s.data.toList.length=s.size:=Q5
 unfold num6
 rw [Qs (show s.data.toList.length<=6 by omega),Td]
 cases hn:neatN s.data.toList with
 | true =>
  have hd:=dec_val _ _ rfl hn
  have hn2:=hn
  unfold neatN at hn2
  simp only [Qo] at hn2
  have hall:=hn2.1.2
  have hp:=parse_val s.data.toList 0 hall (by
   have:10 ^ s.data.toList.length<=10 ^ 6:=Hc uu0 uu0
   omega)
  unfold decN
  cases hs:s.data.toList with
  | nil=>rw [hs] at hn; cases hn
  | cons b l =>
   rw [hs] at hall hp hd
   have hb:=dig_of (Rh.1 hall b Qi)
   have hlt:=Lib.parseUint10_lt _ 0 _ uu0 hp
   have hsmall:valL 0 (b :: l)<9223372036854775808:=by
    have h1:=valL_lt (b :: l) 0 hall
    have h2:10 ^ (b :: l).length<=10 ^ 6:=Hc uu0 (by rw [<- hs]; omega)
    omega
   have ea:Lib.atoiAll (b :: l)=.ok (valL 0 (b :: l):Int):=by
    unfold Lib.atoiAll
    simp only [if_neg (show ¬ (b.toNat=43\/b.toNat=45) by omega),Lib.parseMag,if_neg (show ¬ (b :: l=[]) by simp),hp]
    rw [if_neg uu0,if_neg uu0,if_neg uu0]
   rw [ea]
   have ei:Lib.itoa (valL 0 (b :: l):Int)=b :: l:=by
    rw [itoa_nn _ uu0,Rr,hd]
   simp only [ei]
   rw [Qs uu0]
   simp
 | false =>
  unfold decN
  cases ha:Lib.atoiAll s.data.toList with
  | ok v =>
   by_cases h0:0<=v
   ·have e:(Lib.itoa v==s.data.toList)=false:=by
     rw [Qw]
     intro e
     rw [itoa_nn v h0] at e
     rw [<- e,dec_neat] at hn
     cases hn
    simp only [e,Sj]; rfl
   ·simp only [Qq h0,S3]; rfl
  | _=>rfl
theorem u8sub (b:UInt8) (h:isDig b=true):IntKind.i64.wrap (IntKind.u8.wrap ((b.toNat:Int)-48))=((b.toNat-48:Nat):Int):=by
 have hd:=dig_of h
 have e:IntKind.u8.wrap ((b.toNat:Int)-48)=((b.toNat:Int)-48)%256:=by
  simp [IntKind.wrap,IntKind.signed,IntKind.bits]
 rw [e,wrap_of uu0 uu0]
 omega
theorem dig_test (b:UInt8):decide ((48:Int)<=(b.toNat:Int)/\(b.toNat:Int)<=57)=isDig b:=by
 unfold isDig
 congr 1
 exact propext ⟨fun h=>by omega,fun h=>by omega⟩
theorem num_step (s:Za) (a i:Nat) (hi:i<s.size) (ha:a<=100000000) (b:UInt8) (hb:s.data.toList.getD i 0=b):F123_s0 s ((a:Int),(i:Int)) =
  if isDig b=false then .ret (-1) else .next (((a*10+(b.toNat-48):Nat):Int),((i+1:Nat):Int)):=by
 simp only [F123_s0,Qs (show (i:Int)<(s.size:Int) by omega),Qc,Rr,getD_list,hb,wrap_u8,dig_test]
 cases hd:isDig b with
 | false=>rfl
 | true =>
  have h1:=dig_of hd
  rw [u8sub b hd,wrap_of (n:=(a:Int)*10) uu0 uu0,wrap_of uu0 uu0]
  simp only [Sc,Qb,Bool.true_eq_false,Hi]
  congr 2
theorem num_loop (s:Za):∀ (m i a:Nat),i+m=s.size->(a+1)*10 ^ m<=10000000->∀ fuel,m<fuel ->
  (runL (F123_s0 s) fuel ((a:Int),(i:Int))).fin (fun r=>r) (fun (n,i40)=>n)=bif (s.data.toList.drop i).all isDig then (valL a (s.data.toList.drop i):Int) else -1
 | m,i,a,_,_,0,hf=>absurd hf (R5 _)
 | 0,i,a,h,_,fuel+1,hf=>by
  have hl:s.data.toList.length=s.size:=Q5
  have hst:F123_s0 s ((a:Int),(i:Int))=.done ((a:Int),(i:Int)):=by
   simp only [F123_s0,Qq (show ¬ (i:Int)<(s.size:Int) by omega),Qb]
  rw [runL_d _ hst,Q3 uu0]
  rfl
 | m+1,i,a,h,ha,fuel+1,hf=>by
  have hl:s.data.toList.length=s.size:=Q5
  have hb:s.data.toList.drop i=s.data.toList.getD i 0 :: s.data.toList.drop (i+1):=by
   rw [Rd uu0,Qe,Qj uu0]; rfl
  have hp:1<=10 ^ m:=Nat.one_le_pow _ _ uu0
  have e:(a+1)*10 ^ (m+1)=((a+1)*10)*10 ^ m:=by
   rw [Nat.pow_succ,Gq (10 ^ m) 10,Nat.mul_assoc]
  rw [e] at ha
  have h1:(a+1)*10<=10000000:=Q0 (Gw _ hp) ha
  have hst:=num_step s a i uu0 uu0 _ rfl
  rw [hb,Rz]
  generalize s.data.toList.getD i 0=b at hst ⊢
  by_cases hd:isDig b=false
  ·rw [if_pos hd] at hst
   rw [runL_r _ hst,hd]; rfl
  ·rw [if_neg hd] at hst
   have hd':isDig b=true:=by simpa using hd
   have hg:=dig_of hd'
   rw [runL_n _ hst,num_loop s m (i+1) _ uu0 (Q0 (Ra _ uu0) ha) fuel uu0,hd',Sm]
   rfl
theorem specNum_eq (s:Za):F123 s=num6 s.data.toList:=by
 have hl:s.data.toList.length=s.size:=Q5
 unfold F123 num6
 by_cases h1:(1:Int)<=(s.size:Int)/\(s.size:Int)<=6
 ·rw [Qs h1,Qs (show s.data.toList.length<=6 by omega),Td,Sc,Qb,getD_list]
  have hp:(0+1)*10 ^ s.size<=10000000:=by
   have:10 ^ s.size<=10 ^ 6:=Hc uu0 uu0
   omega
  have hlp:=num_loop s s.size 0 0 uu0 hp (Int.toNat ((s.size:Int)-0)+1) uu0
  rw [Ro] at hlp
  have hne:s.data.toList.isEmpty=false:=by
   cases hs:s.data.toList with
   | nil=>rw [hs] at hl; simp only [Rs] at hl; omega
   | cons b l=>rfl
  have e48:=u8_eq (s.data.toList.getD 0 0) 48
  have h48:((48:UInt8).toNat:Int)=48:=rfl
  rw [h48] at e48
  have e0:(Int.toNat 0)=0:=rfl
  rw [e0,e48,neatN,hne]
  have eq:(s.data.toList.getD 0 0==(48:UInt8))=decide (s.data.toList.getD 0 0=48):=by
   cases h:decide (s.data.toList.getD 0 0=48) with
   | true=>exact Sb.2 (Qd h)
   | false=>exact Qw.2 (Qv h)
  rw [eq]
  have eg:decide ((s.size:Int)>1)=decide (s.data.toList.length>1):=by
   by_cases hg:s.size>1
   ·rw [Qs uu0,Qs uu0]
   ·rw [Qq uu0,Qq uu0]
  rw [eg]
  refine (Qh (fun z=>bif (bif decide (s.data.toList.length>1) then decide (s.data.toList.getD 0 0=48) else false) then (-1:Int) else z) hlp).trans ?_
  cases decide (s.data.toList.length>1) <;> cases decide (s.data.toList.getD 0 0=48) <;> cases s.data.toList.all isDig <;> rfl
 ·rw [Qq h1,Tb,Qc,Qc]
  by_cases h6:s.data.toList.length<=6
  ·have hz:s.data.toList=[]:=List.length_eq_zero_iff.1 uu0
   rw [hz]; rfl
  ·rw [Qq h6,Sj]; rfl
theorem dec_len:∀ (k u:Nat),u<10 ^ (k+1)->(Lib.decDigits u).length<=k+1
 | 0,u,h=>by
  rw [Lib.decDigits_one (by simpa using h)]; exact Qn _
 | k+1,u,h=>by
  by_cases hu:u<10
  ·rw [Lib.decDigits_one hu]; exact Hf (Re _)
  ·have h1:u / 10<10 ^ (k+1):=by
    rw [Nat.pow_succ] at h
    exact Nat.div_lt_of_lt_mul (by rw [Gq]; exact h)
   rw [Lib.decDigits,dif_neg hu,Qu]
   exact Hf (dec_len k _ h1)
theorem decN_cases (s:Za):decN s=-1\/∃ u:Nat,decN s=(u:Int)/\Lib.decDigits u=s.data.toList:=by
 unfold decN
 cases ha:Lib.atoiAll s.data.toList with
 | ok v =>
  by_cases h0:0<=v
  ·cases he:(Lib.itoa v==s.data.toList) with
   | true =>
    refine .inr ⟨v.toNat,?_,?_⟩
    ·simp only [Qs h0,he,Td,Qc]
     omega
    ·rw [<- itoa_nn v h0]; exact Sb.1 he
   | false=>refine .inl ?_; simp only [he,Sj]; rfl
  ·refine .inl ?_; simp only [Qq h0,S3]; rfl
 | _=>exact .inl rfl
theorem decN_low (s:Za) (h:decN s<=999999):decN s=num6 s.data.toList:=by
 have hl:s.data.toList.length=s.size:=Q5
 by_cases hs:s.size<=6
 ·exact decN_six s hs
 ·have e:num6 s.data.toList=-1:=by
   unfold num6
   rw [Qq (show ¬ s.data.toList.length<=6 by omega),Sj]; rfl
  rw [e]
  rcases decN_cases s with h1 | ⟨u,h1,h2⟩
  ·exact h1
  ·have h3:=dec_len 5 u (by rw [h1] at h; have:10 ^ (5+1)=1000000:=rfl; omega)
   rw [h2] at h3
   omega
theorem num6_lt (l:List UInt8):num6 l<=999999:=by
 unfold num6
 cases h:neatN l&&decide (l.length<=6) with
 | false=>rw [Qb]; omega
 | true =>
  rw [Qc]
  rw [Qo] at h
  have hn:=h.1
  unfold neatN at hn
  simp only [Qo] at hn
  have h1:=valL_lt l 0 hn.1.2
  have h2:10 ^ l.length<=10 ^ 6:=Hc uu0 (Qd h.2)
  omega
def in255 (v:Int):Bool:=decide (0<=v/\v<=255)
def addr2:List (List UInt8)->Int
 | [a,b]=>bif in255 (num6 a)&&in255 (num6 b) then 256*num6 a+num6 b else -1
 | _=>-1
def addrL (l:List UInt8):Int:=addr2 (splitL 46 l)
theorem wrap_addr (x y:Int) (hx:in255 x=true) (hy:in255 y=true):IntKind.i64.wrap (IntKind.i64.wrap (256*x)+y)=256*x+y:=by
 have h1:=Qd hx
 have h2:=Qd hy
 rw [wrap_of (n:=256*x) uu0 uu0,wrap_of uu0 uu0]
theorem specAddr_eq (s:Za):F95 s=addrL s.data.toList:=by
 have hc:F85 s 46=(splitL 46 s.data.toList).map mkB:=specCut_eq s 46
 unfold F95 addrL
 rw [hc]
 simp only [specNum_eq]
 cases splitL 46 s.data.toList with
 | nil=>rfl
 | cons a t=>cases t with
  | nil=>rfl
  | cons b t=>cases t with
   | nil =>
    show (bif (bif (!(in255 (num6 a))) then true else (!(in255 (num6 b)))) then (-1) else (IntKind.i64.wrap ((IntKind.i64.wrap (256*num6 a))+num6 b)))=bif in255 (num6 a)&&in255 (num6 b) then 256*num6 a+num6 b else -1
    cases ha:in255 (num6 a) <;> cases hb:in255 (num6 b) <;> try rfl
    exact wrap_addr _ _ ha hb
   | cons c t =>
    have:(((List.map mkB (a :: b :: c :: t)).length:Int) != 2)=true:=by
     rw [G1]
     simp only [Rc,Qx,Sg]
     omega
    rw [this]; rfl
theorem addrL_ge (l:List UInt8):-1<=addrL l/\addrL l<=65535:=by
 unfold addrL
 cases splitL 46 l with
 | nil=>exact ⟨Int.le_refl _,(show (-1:Int)<=65535 by omega)⟩
 | cons a t=>cases t with
  | nil=>exact ⟨Int.le_refl _,(show (-1:Int)<=65535 by omega)⟩
  | cons b t=>cases t with
   | nil =>
    show -1<=(bif in255 (num6 a)&&in255 (num6 b) then 256*num6 a+num6 b else -1)/\(bif in255 (num6 a)&&in255 (num6 b) then 256*num6 a+num6 b else -1)<=65535
    cases h:in255 (num6 a)&&in255 (num6 b) with
    | false=>simp only [Qb]; omega
    | true =>
     rw [Qo] at h
     have h1:=Qd h.1
     have h2:=Qd h.2
     simp only [Qc]; omega
   | cons c t=>exact ⟨Int.le_refl _,(show (-1:Int)<=65535 by omega)⟩
theorem dec255 (s:Za):in255 (decN s)=in255 (num6 s.data.toList)/\(in255 (decN s)=true->decN s=num6 s.data.toList):=by
 by_cases h:decN s<=999999
 ·rw [decN_low s h]; exact ⟨rfl,fun _=>rfl⟩
 ·have h1:in255 (decN s)=false:=Qq uu0
  have h2:num6 s.data.toList=-1:=by
   rcases decN_cases s with h3 | ⟨u,h3,h4⟩
   ·omega
   ·have hl:¬ s.data.toList.length<=6:=fun hle=>by
     have hl:s.data.toList.length=s.size:=Q5
     have:=decN_six s uu0
     have:=num6_lt s.data.toList
     omega
    unfold num6
    rw [Qq hl,Sj]; rfl
  rw [h1,h2]
  exact ⟨rfl,fun h=>by cases h⟩
theorem dig_no46:∀ l:List UInt8,46∈l->neatN l=false:=by
 intro l hm
 cases h:neatN l with
 | false=>rfl
 | true =>
  unfold neatN at h
  simp only [Qo] at h
  have:=dig_of (Rh.1 h.1.2 _ hm)
  have e:(46:UInt8).toNat=46:=rfl
  omega
theorem num6_no46 {l:List UInt8} (h:46∈l):num6 l=-1:=by
 unfold num6
 rw [dig_no46 l h,S3]; rfl
theorem implAddr_eq (s:Za):F110 s=addrL s.data.toList:=by
 have e209:∀ t:Za,F149 t=decN t:=fun _=>rfl
 have e87:∀ t u:Za,F38 t u=cut3 t u:=fun _ _=>rfl
 unfold F110 addrL
 simp only [e209,e87]
 rcases cut_cases s 46 with ⟨h1,h2⟩ | ⟨a,b,h1,h2,h3⟩
 ·rw [h2,splitL_none h1]; rfl
 ·rw [h3,h1,splitL_app b h2]
  show (bif (bif (!true) then true else (!(in255 (decN (mkB a))))) then true else (!(in255 (decN (mkB b))))) |> fun z=>(bif z then (-1) else (IntKind.i64.wrap ((IntKind.i64.wrap (256*decN (mkB a)))+decN (mkB b))))=addr2 (a :: splitL 46 b)
  have da:=dec255 (mkB a)
  have db:=dec255 (mkB b)
  rw [mkB_data] at da db
  rw [da.1,db.1]
  by_cases hb:(46:UInt8)∈b
  ·have hn:num6 b=-1:=num6_no46 hb
   have e2:in255 (num6 b)=false:=by rw [hn]; rfl
   rw [e2]
   have e3:∃ x y t,splitL 46 b=x :: y :: t:=by
    rcases index_split 46 b with ⟨_,h⟩ | ⟨x,y,hx,hx2,_⟩
    ·exact absurd hb h
    ·rw [hx,splitL_app y hx2]
     cases hs:splitL 46 y with
     | nil =>
      cases y with
      | nil=>cases hs
      | cons c y =>
       rw [splitL] at hs
       split at hs
       ·cases hs
       ·split at hs <;> cases hs
     | cons p t=>exact ⟨_,_,_,rfl⟩
   obtain ⟨x,y,t,e3⟩:=e3
   rw [e3]
   cases in255 (num6 a) <;> rfl
  ·rw [splitL_none hb]
   show _=bif in255 (num6 a)&&in255 (num6 b) then 256*num6 a+num6 b else -1
   cases ha:in255 (num6 a) <;> cases hb2:in255 (num6 b) <;> try rfl
   have h4:=da.2 (by rw [da.1]; exact ha)
   have h5:=db.2 (by rw [db.1]; exact hb2)
   rw [h4,h5]
   exact wrap_addr _ _ ha hb2
theorem addr_same (s:Za):F110 s=F95 s:=(implAddr_eq s).trans (specAddr_eq s).symm
def in16 (v:Int):Bool:=decide (0<=v/\v<=16)
def pfx2:List (List UInt8)->Option (Int×Int)
 | [a,b]=>bif decide (0<=addrL a)&&(in16 (num6 b)&&((addrL a).tmod (F153 (num6 b))==0)) then some (addrL a,num6 b) else none
 | _=>none
def pfxL (l:List UInt8):Option (Int×Int):=pfx2 (splitL 47 l)
theorem specPfx_eq (s:Za):F119 s=match pfxL s.data.toList with | some (a,n)=>(a,F153 n) | none=>(-1,0):=by
 have hc:F85 s 47=(splitL 47 s.data.toList).map mkB:=specCut_eq s 47
 unfold F119 pfxL
 rw [hc]
 simp only [specNum_eq,specAddr_eq]
 cases splitL 47 s.data.toList with
 | nil=>rfl
 | cons a t=>cases t with
  | nil=>rfl
  | cons b t=>cases t with
   | nil =>
    show (bif (bif decide (addrL a<0) then true else (!(in16 (num6 b)))) then ((-1:Int),(0:Int)) else (bif ((addrL a).tmod (F153 (num6 b)) != 0) then ((-1),0) else (addrL a,F153 (num6 b))))=match pfx2 [a,b] with | some (a,n)=>(a,F153 n) | none=>(-1,0)
    have e:decide (addrL a<0)=!decide (0<=addrL a):=by
     by_cases h:0<=addrL a
     ·rw [Qs h,Qq uu0]; rfl
     ·rw [Qq h,Qs uu0]; rfl
    rw [e,bne,pfx2]
    cases decide (0<=addrL a) <;> cases in16 (num6 b) <;> cases ((addrL a).tmod (F153 (num6 b))==0) <;> rfl
   | cons c t =>
    have:(((List.map mkB (a :: b :: c :: t)).length:Int) != 2)=true:=by
     rw [G1]
     simp only [Rc,Qx,Sg]
     omega
    rw [this]; rfl
theorem pfx2_nn {ws:List (List UInt8)} {a n:Int} (h:pfx2 ws=some (a,n)):0<=a/\a<=65535/\0<=n/\n<=16:=by
 cases ws with
 | nil=>cases h
 | cons x t=>cases t with
  | nil=>cases h
  | cons y t=>cases t with
   | cons z t=>cases h
   | nil =>
    rw [pfx2] at h
    cases hc:decide (0<=addrL x)&&(in16 (num6 y)&&((addrL x).tmod (F153 (num6 y))==0)) with
    | false=>rw [hc] at h; cases h
    | true =>
     rw [hc] at h
     simp only [Qc,Qa,Q7] at h
     simp only [Qo] at hc
     have h1:=Qd hc.1
     have h2:=Qd hc.2.1
     have h3:=addrL_ge x
     omega
theorem specIsPfx_eq (s:Za):F94 s=(pfxL s.data.toList).isSome:=by
 unfold F94
 rw [specPfx_eq]
 cases h:pfxL s.data.toList with
 | none=>rfl
 | some p =>
  obtain ⟨a,n⟩:=p
  exact Qs (pfx2_nn h).1
theorem size_same (a n:Int) (h1:0<=n) (h2:n<=16):F179 (⟨a,n⟩:NetPrefix)=F153 n:=by
 have h3:n=0\/n=1\/n=2\/n=3\/n=4\/n=5\/n=6\/n=7\/n=8\/n=9\/n=10\/n=11\/n=12\/n=13\/n=14\/n=15\/n=16:=by omega
 rcases h3 with rfl | rfl | rfl | rfl | rfl | rfl | rfl | rfl | rfl | rfl | rfl | rfl | rfl | rfl | rfl | rfl | rfl <;> exact Qd rfl
theorem dec16 (s:Za):in16 (decN s)=in16 (num6 s.data.toList)/\(in16 (decN s)=true->decN s=num6 s.data.toList):=by
 by_cases h:decN s<=999999
 ·rw [decN_low s h]; exact ⟨rfl,fun _=>rfl⟩
 ·have h1:in16 (decN s)=false:=Qq uu0
  have h2:num6 s.data.toList=-1:=by
   rcases decN_cases s with h3 | ⟨u,h3,h4⟩
   ·omega
   ·have hl:¬ s.data.toList.length<=6:=fun hle=>by
     have hl:s.data.toList.length=s.size:=Q5
     have:=decN_six s uu0
     have:=num6_lt s.data.toList
     omega
    unfold num6
    rw [Qq hl,Sj]; rfl
  rw [h1,h2]
  exact ⟨rfl,fun h=>by cases h⟩
theorem num6_no {l:List UInt8} {c:UInt8} (hc:isDig c=false) (h:c∈l):num6 l=-1:=by
 have hn:neatN l=false:=by
  cases hh:neatN l with
  | false=>rfl
  | true =>
   unfold neatN at hh
   simp only [Qo] at hh
   rw [Rh.1 hh.1.2 _ h] at hc
   cases hc
 unfold num6
 rw [hn,S3]; rfl
theorem split_two {c:UInt8} {b:List UInt8} (hb:c∈b):∃ x y t,splitL c b=x :: y :: t:=by
 rcases index_split c b with ⟨_,h⟩ | ⟨x,y,hx,hx2,_⟩
 ·exact absurd hb h
 ·rw [hx,splitL_app y hx2]
  cases hs:splitL c y with
  | nil =>
   cases y with
   | nil=>cases hs
   | cons d y =>
    rw [splitL] at hs
    split at hs
    ·cases hs
    ·split at hs <;> cases hs
  | cons p t=>exact ⟨_,_,_,rfl⟩
theorem netOk_eq (a n:Int) (ha:-1<=a/\a<=65535):F152 (⟨a,n⟩:NetPrefix)=(decide (0<=a)&&(in16 n&&(a.tmod (F153 n)==0))):=by
 unfold F152
 by_cases hn:0<=n/\n<=16
 ·have e:F179 (⟨a,n⟩:NetPrefix)=F153 n:=size_same a n hn.1 hn.2
  have e16:in16 n=true:=Qs hn
  simp only [e,Qs hn,e16,Qc,Sm]
  by_cases h0:0<=a
  ·rw [Qs h0,Qs (show 0<=a/\a<=65535 by omega)]; rfl
  ·rw [Qq h0,Qq (show ¬ (0<=a/\a<=65535) by omega)]; rfl
 ·have e16:in16 n=false:=Qq hn
  simp only [Qq hn,e16,Qb,S3,Sj]
theorem implPfx_eq (s:Za):F114 s=match pfxL s.data.toList with | some (a,n)=>(⟨a,n⟩,true) | none=>(⟨0,0⟩,false):=by
 have e209:∀ t:Za,F149 t=decN t:=fun _=>rfl
 have e87:∀ t u:Za,F38 t u=cut3 t u:=fun _ _=>rfl
 unfold F114 pfxL
 simp only [e209,e87,implAddr_eq]
 rcases cut_cases s 47 with ⟨h1,h2⟩ | ⟨a,b,h1,h2,h3⟩
 ·rw [h2,splitL_none h1]; rfl
 ·rw [h3,h1,splitL_app b h2]
  have ea:(⟨a.toArray⟩:Za)=mkB a:=rfl
  have eb:(⟨b.toArray⟩:Za)=mkB b:=rfl
  have d:=dec16 (mkB b)
  simp only [ea,eb,mkB_data,netOk_eq _ _ (addrL_ge a),Sc,Qb] at d ⊢
  by_cases hb:(47:UInt8)∈b
  ·have hn:num6 b=-1:=num6_no rfl hb
   have e2:in16 (decN (mkB b))=false:=by rw [d.1,hn]; rfl
   obtain ⟨x,y,t,e3⟩:=split_two hb
   rw [e2,e3,S3,Sj]
   rfl
  ·rw [splitL_none hb,pfx2]
   cases h16:in16 (decN (mkB b)) with
   | false =>
    rw [<- d.1,h16]
    cases decide (0<=addrL a) <;> rfl
   | true =>
    have e4:=d.2 h16
    rw [<- d.1,h16,e4,Sm]
    cases decide (0<=addrL a)&&((addrL a).tmod (F153 (num6 b))==0) <;> rfl
theorem isPfx_same (s:Za):(F114 s).2=F94 s:=by
 rw [implPfx_eq,specIsPfx_eq]
 cases pfxL s.data.toList with
 | none=>rfl
 | some p=>rfl
def F134_s0 (word:Za):Int->Lp Int Bool:=fun i40 =>
 bif (decide (i40<(word.size:Int))) then (bif (bif (bif (((word.data.getD i40.toNat 0).toNat:Int) != 45) then (bif decide (((word.data.getD i40.toNat 0).toNat:Int)<97) then true else decide (((word.data.getD i40.toNat 0).toNat:Int)>122)) else false) then (bif decide (((word.data.getD i40.toNat 0).toNat:Int)<48) then true else decide (((word.data.getD i40.toNat 0).toNat:Int)>57)) else false) then (.ret false) else (.next (i40+1))) else (.done i40)
def F134 (word:Za):Bool :=
 (runL (F134_s0 word) (((word.size:Int)-0).toNat+1) 0).fin (fun r=>r) (fun i40=>(decide (1<=(word.size:Int)/\(word.size:Int)<=8)))
abbrev lN134_0 (word:Za):Nat×Int:=((((word.size:Int)-0).toNat+1),0)
abbrev lI134_0 (word:Za) (m39:Nat) (i40:Int):Prop:=Int.toNat ((word.size:Int)-i40)<m39/\(0:Int)<=i40
abbrev lX134_0 (word:Za):Lp Int Bool:=LpX (F134_s0 word) (lN134_0 word)
abbrev lJ134_0 (word:Za) (i:Nat×Int):Prop:=LpJ (F134_s0 word) (lN134_0 word) i (lI134_0 word i.1 i.2)
abbrev lH134_0 (word:Za) (i:Nat×Int) (m39:Nat) (i40:Int):Prop:=LpH (F134_s0 word) (lN134_0 word) i m39 i40 (lI134_0 word (m39+1) i40)
abbrev lE134_0 (word:Za) (i40:Int) (i40_:Int) (K39:Prop):Prop:=(Rf (.string word))/\((.int .i64 i40:Value)=.int .i64 i40_)/\K39
theorem un134_0 (word:Za) (i:Nat×Int) (h:lJ134_0 word i):lH134_0 word i (i.1-1) i.2:=⟨hd1 h.1 h.2.1,hd3 h.2.1,hd2 h.2.1,h.2.2⟩
theorem bk134_0 (word:Za) (i:Nat×Int) (m39:Nat) (i40:Int) (hl:m39<i.1) (e:runL (F134_s0 word) m39 i40=lX134_0 word) (h:lI134_0 word m39 i40):∃ j:Nat×Int,lE134_0 word i40 j.2 (lJ134_0 word j/\j.1<i.1):=⟨(m39,i40),rfl,rfl,⟨e,h⟩,hl⟩
theorem en134_0 (word:Za) (h:(0:Int)<=0):lE134_0 word 0 0 (lJ134_0 word (lN134_0 word)):=⟨rfl,rfl,rfl,Qr _,h⟩
def S134 (word:Za):Spec:=⟨[.r (.c (.v (.string word)))],.v (.bool (F134 word)),word.size<=1048576⟩
theorem ok134 (word:Za):(S134 word).ok Tryz.prog 134 :=
 fnG_ok mixed (fn:=Tryz.f134) (ct:=.seq .no (.seq (.seq .no (.blk (.loop (ι:=Nat×Int) (fun i=>(fun (i40:Int)=>(⟨[(0,some (.v (.string word))),(3,some (.v (vI i40)))],[],0⟩:St)) i.2) (lJ134_0 word) (fun i=>i.1) (lN134_0 word) (fun i=>(fun (i40:Int)=>(.seq (.seq .no (.cond .no .no)) (.seq (.blk (.seq .no (.seq .no (.cond (.seq .no .no) .no)))) (.reg [(1,.bnd)])))) i.2)))) (.seq (.reg [(2,kh39a (word.size:Int) 1 8)]) .no))) Tryz.func134 (fun (hpre0:word.size<=1048576)=>ai (en134_0 word uu0) (fun (i0:Nat×Int) (hi0:lJ134_0 word i0)=>(fun (m0:Nat) (i40:Int) (hh0:lH134_0 word i0 m0 i40)=>have hI0:=hh0.1; have hl0:=hh0.2.1; have _:=hh0.2.2.1; have _:=hh0.2.2.2; ifd (i40<(word.size:Int)) (fun h2 _=>ai (uu0:0<=i40/\i40<(word.size:Int)) (ifb (bif (bif (((word.data.getD i40.toNat 0).toNat:Int) != 45) then (bif decide (((word.data.getD i40.toNat 0).toNat:Int)<97) then true else decide (((word.data.getD i40.toNat 0).toNat:Int)>122)) else false) then (bif decide (((word.data.getD i40.toNat 0).toNat:Int)<48) then true else decide (((word.data.getD i40.toNat 0).toNat:Int)>57)) else false) (fun h3=>have _:=bneT (andT1 (andT1 h3)); fiB false (F134 word) (finR (runL_ret hI0 (condT h2 (condT h3 rfl))) rfl)) (fun h3=>ai (iok (i40+1) uu0) (bk134_0 word i0 m0 (i40+1) hl0 (runL_next hI0 (condT h2 (condF h3 rfl))) uu6)))) (fun h2 _=>have hD0_4:lX134_0 word=Lp.done i40:=runL_done hI0 (condF h2 rfl); kc39a (word.size:Int) 1 8 (fiB (decide (1<=(word.size:Int)/\(word.size:Int)<=8)) (F134 word) (finD hD0_4 rfl)))) (i0.1-1) i0.2 (un134_0 word i0 hi0))) uu3
theorem kc129 (word:Za) {K_:Prop} (p0_:word.size<=1048576) (k_:K_):(word.size<=1048576)/\(Imp (.v (.string word)) (.v (.string word)))/\K_:=⟨p0_,Imp.refl _,k_⟩
abbrev kh129 (word:Za):Hint true Tryz.prog:=.call 129 (S129 word) (ok129 word) none
def F135 (word:Za):Bool :=
 (F129 word).2
def S135 (word:Za):Spec:=⟨[.r (.c (.v (.string word)))],.v (.bool (F135 word)),word.size<=1048576⟩
theorem ok135 (word:Za):(S135 word).ok Tryz.prog 135 :=
 fnG_ok mixed (fn:=Tryz.f135) (ct:=.seq .no (.seq (.reg [(1,kh129 word)]) (.seq .no .no))) Tryz.func135 (fun (hpre0:word.size<=1048576)=>kc129 word uu0 (fiB (F129 word).2 (F135 word) rfl)) uu3
theorem kc114 (text:Za) {K_:Prop} (p0_:text.size<=1048576) (k_:K_):(text.size<=1048576)/\(Imp (.v (.string text)) (.v (.string text)))/\K_:=⟨p0_,Imp.refl _,k_⟩
abbrev kh114 (text:Za):Hint false Tryz.prog:=.call 114 (S114 text) (ok114 text) none
def F136 (word:Za):Bool :=
 (F114 word).2
def S136 (word:Za):Spec:=⟨[.r (.c (.v (.string word)))],.v (.bool (F136 word)),word.size<=1048576⟩
theorem ok136 (word:Za):(S136 word).ok Tryz.prog 136 false :=
 fnG_ok mixed (fn:=Tryz.f136) (ct:=.seq .no (.seq (.reg [(1,kh114 word)]) (.seq .no .no))) Tryz.func136 (fun (hpre0:word.size<=1048576)=>kc114 word uu0 (fiB (F114 word).2 (F136 word) rfl)) uu3
def F138 (word:Za):Bool :=
 decide ((F110 word)>=0)
def S138 (word:Za):Spec:=⟨[.r (.c (.v (.string word)))],.v (.bool (F138 word)),word.size<=1048576⟩
theorem ok138 (word:Za):(S138 word).ok Tryz.prog 138 false :=
 fnG_ok mixed (fn:=Tryz.f138) (ct:=.seq .no (.seq (.reg [(1,kh110 word)]) .no)) Tryz.func138 (fun (hpre0:word.size<=1048576)=>kc110 word uu0 (fiB (decide ((F110 word)>=0)) (F138 word) rfl)) uu3
def F115 (word:Za):Int :=
 bif (decide ((word.size:Int)>6)) then (-1) else (F149 word)
def S115 (word:Za):Spec:=⟨[.r (.c (.v (.string word)))],.v (vI (F115 word)),word.size<=1048576⟩
theorem ok115 (word:Za):(S115 word).ok Tryz.prog 115 false :=
 fnG_ok mixed (fn:=Tryz.f115) (ct:=.seq .no (.seq (.seq .no (.cond (.seq .no .no) .no)) (.seq (.reg [(1,kh149 word)]) .no))) Tryz.func115 (fun (hpre0:word.size<=1048576)=>ifd ((word.size:Int)>6) (fun h1 _=>fiI (-1) (F115 word) (condT h1 rfl)) (fun h1 _=>kc149 word uu0 (fiI (F149 word) (F115 word) (condF h1 rfl)))) uu3
theorem scan_loop (s:Za) (st:Int->Lp Int Bool) (p:UInt8->Bool) (y:Bool)
  (h1:∀ (i:Nat),i<s.size->∀ b,s.data.toList.getD i 0=b->st (i:Int)=bif p b then .next ((i+1:Nat):Int) else .ret false)
  (h2:st (s.size:Int)=.done (s.size:Int)):∀ (m i:Nat),i+m=s.size->∀ fuel,m<fuel->(runL st fuel (i:Int)).fin (fun r=>r) (fun _=>y)=bif (s.data.toList.drop i).all p then y else false
 | m,i,_,0,hf=>absurd hf (R5 _)
 | 0,i,h,fuel+1,hf=>by
  have hl:s.data.toList.length=s.size:=Q5
  obtain rfl:i=s.size:=by omega
  rw [runL_d _ h2,Q3 uu0]
  rfl
 | m+1,i,h,fuel+1,hf=>by
  have hl:s.data.toList.length=s.size:=Q5
  have hb:s.data.toList.drop i=s.data.toList.getD i 0 :: s.data.toList.drop (i+1):=by
   rw [Rd uu0,Qe,Qj uu0]; rfl
  have hst:=h1 i uu0 _ rfl
  rw [hb,Rz]
  generalize s.data.toList.getD i 0=b at hst ⊢
  cases hd:p b with
  | false =>
   rw [hd,Qb] at hst
   rw [runL_r _ hst]; rfl
  | true =>
   rw [hd,Qc] at hst
   rw [runL_n _ hst,scan_loop s st p y h1 h2 m (i+1) uu0 fuel uu0,Sm]
def nameB (b:UInt8):Bool:=decide (b.toNat=45) || decide (97<=b.toNat/\b.toNat<=122) || decide (48<=b.toNat/\b.toNat<=57)
def nameL (l:List UInt8):Bool:=decide (1<=l.length/\l.length<=8)&&l.all nameB
theorem bne45 (b:UInt8):((b.toNat:Int) != 45)=!decide (b.toNat=45):=by
 cases h:decide (b.toNat=45) with
 | true =>
  have:=Qd h
  rw [this]; rfl
 | false =>
  have:=Qv h
  rw [Tb,G1]; omega
theorem two_test (b:UInt8) (lo hi:Nat):(bif decide ((b.toNat:Int)<(lo:Int)) then true else decide ((b.toNat:Int)>(hi:Int)))=!decide (lo<=b.toNat/\b.toNat<=hi):=by
 by_cases h1:(b.toNat:Int)<(lo:Int)
 ·rw [Qs h1,Qc,Qq uu0]; rfl
 ·rw [Qq h1,Qb]
  by_cases h2:(b.toNat:Int)>(hi:Int)
  ·rw [Qs h2,Qq uu0]; rfl
  ·rw [Qq h2,Qs uu0]; rfl
theorem between (b:UInt8) (lo hi:Nat):decide ((lo:Int)<=(b.toNat:Int)/\(b.toNat:Int)<=(hi:Int))=decide (lo<=b.toNat/\b.toNat<=hi):=by
 congr 1
 exact propext ⟨fun h=>by omega,fun h=>by omega⟩
theorem implName_eq (s:Za):F134 s=nameL s.data.toList:=by
 have hl:s.data.toList.length=s.size:=Q5
 have h:=scan_loop s (F134_s0 s) nameB (decide (1<=(s.size:Int)/\(s.size:Int)<=8)) (fun i hi b hb=>by
  have a1:=two_test b 97 122
  have a2:=two_test b 48 57
  have c1:((97:Nat):Int)=97:=rfl
  have c2:((122:Nat):Int)=122:=rfl
  have c3:((48:Nat):Int)=48:=rfl
  have c4:((57:Nat):Int)=57:=rfl
  rw [c1,c2] at a1
  rw [c3,c4] at a2
  simp only [F134_s0,Qs (show (i:Int)<(s.size:Int) by omega),Qc,Rr,getD_list,hb,bne45,a1,a2,nameB]
  cases decide (b.toNat=45) <;> cases decide (97<=b.toNat/\b.toNat<=122) <;> cases decide (48<=b.toNat/\b.toNat<=57) <;> rfl)
  (by simp only [F134_s0,Qq (show ¬ (s.size:Int)<(s.size:Int) by omega),Qb]) s.size 0 uu0 (Int.toNat ((s.size:Int)-0)+1) uu0
 unfold F134
 refine h.trans ?_
 rw [Ro,nameL]
 have e:decide ((1:Int)<=(s.size:Int)/\(s.size:Int)<=8)=decide (1<=s.data.toList.length/\s.data.toList.length<=8):=by
  congr 1
  exact propext ⟨fun h=>by omega,fun h=>by omega⟩
 rw [e]
 cases s.data.toList.all nameB <;> cases decide (1<=s.data.toList.length/\s.data.toList.length<=8) <;> rfl
theorem specName_eq (s:Za):F82 s=nameL s.data.toList:=by
 have hl:s.data.toList.length=s.size:=Q5
 have h:=scan_loop s (F82_s0 s) nameB true (fun i hi b hb=>by
  have a1:=between b 97 122
  have a2:=between b 48 57
  have c1:((97:Nat):Int)=97:=rfl
  have c2:((122:Nat):Int)=122:=rfl
  have c3:((48:Nat):Int)=48:=rfl
  have c4:((57:Nat):Int)=57:=rfl
  rw [c1,c2] at a1
  rw [c3,c4] at a2
  simp only [F82_s0,Qs (show (i:Int)<(s.size:Int) by omega),Qc,Rr,getD_list,hb,bne45,wrap_u8,a1,a2,nameB]
  cases decide (b.toNat=45) <;> cases decide (97<=b.toNat/\b.toNat<=122) <;> cases decide (48<=b.toNat/\b.toNat<=57) <;> rfl)
  (by simp only [F82_s0,Qq (show ¬ (s.size:Int)<(s.size:Int) by omega),Qb]) s.size 0 uu0 (Int.toNat ((s.size:Int)-0)+1) uu0
 unfold F82
 rw [Ro] at h
 have e:decide ((1:Int)<=(s.size:Int)/\(s.size:Int)<=8)=decide (1<=s.data.toList.length/\s.data.toList.length<=8):=by
  congr 1
  exact propext ⟨fun h=>by omega,fun h=>by omega⟩
 rw [e,nameL]
 cases decide (1<=s.data.toList.length/\s.data.toList.length<=8) with
 | false=>rfl
 | true =>
  refine h.trans ?_
  cases s.data.toList.all nameB <;> rfl
theorem name_same (s:Za):F134 s=F82 s:=(implName_eq s).trans (specName_eq s).symm
def anyF (c:Nat->Bool):Nat->Nat->Bool
 | _,0=>false
 | i,m+1=>c i || anyF c (i+1) m
theorem any_loop {ρ τ:Type} (st:Int->Lp Int ρ) (n:Nat) (c:Nat->Bool) (bad:ρ) (f:ρ->τ) (y:τ) (h1:∀ i,i<n->st (i:Int)=bif c i then .ret bad else .next ((i+1:Nat):Int)) (h2:st (n:Int)=.done (n:Int)) :
  ∀ (m i:Nat),i+m=n->∀ fuel,m<fuel->(runL st fuel (i:Int)).fin f (fun _=>y)=bif anyF c i m then f bad else y
 | m,i,_,0,hf=>absurd hf (R5 _)
 | 0,i,h,fuel+1,hf=>by
  obtain rfl:i=n:=by omega
  rw [runL_d _ h2]; rfl
 | m+1,i,h,fuel+1,hf=>by
  have hst:=h1 i uu0
  rw [anyF]
  cases hd:c i with
  | true =>
   rw [hd,Qc] at hst
   rw [runL_r _ hst]; rfl
  | false =>
   rw [hd,Qb] at hst
   rw [runL_n _ hst,any_loop st n c bad f y h1 h2 m (i+1) uu0 fuel uu0,G7]
theorem implHas_eq (ws:List Za) (x:Za):F75 ws x=ws.any fun e=>x.toList==e.toList:=by
 unfold F75
 rw [<- any_idx]
 congr 1
 exact Qh (·>=0) (idx_loop (fun e:Za=>x.toList==e.toList) ws (F128_s0 ws x) (fun i=>rfl))
theorem anyF_drop (ws:List Za) (p:Za->Bool):∀ (m i:Nat),i+m=ws.length->anyF (fun k=>p (ws.getD k default)) i m=(ws.drop i).any p
 | 0,i,h=>by rw [Q3 uu0]; rfl
 | m+1,i,h=>by
  rw [Rd uu0,Ga,anyF,anyF_drop ws p m (i+1) uu0,Qe,Qj uu0]
  rfl
theorem specHas_eq (ws:List Za) (x:Za):F84 ws x=ws.any fun e=>e.toList==x.toList:=by
 have h:=any_loop (F84_s0 ws x) ws.length (fun k=>(ws.getD k default).toList==x.toList) true (fun r=>r) false (fun i hi=>by
  simp only [F84_s0,Qs (show (i:Int)<(ws.length:Int) by omega),Qc,Rr]
  rfl) (by simp only [F84_s0,Qq (show ¬ (ws.length:Int)<(ws.length:Int) by omega),Qb]) ws.length 0 uu0 (Int.toNat ((ws.length:Int)-0)+1) uu0
 unfold F84
 refine h.trans ?_
 rw [anyF_drop ws (fun e=>e.toList==x.toList) ws.length 0 uu0,Ro]
 cases (ws.any fun e=>e.toList==x.toList) <;> rfl
theorem has_same (ws:List Za) (x:Za):F75 ws x=F84 ws x:=by
 rw [implHas_eq,specHas_eq]
 congr 1
 funext e
 rw [Tt,Sb,Sb]
 exact eq_comm
def rightBad (ws:List Za) (k:Nat):Bool:=bif (!(F84 F143 (ws.getD k default))) then true else (bif decide ((k:Int)>0) then (!(Op.bytesLess (ws.getD ((k:Int)-1).toNat default).toList (ws.getD k default).toList)) else false)
def rightsB (s:Za):Bool:=bif (bif (s.toList==Zr.toList) then true else (s.toList==Zu.toList)) then true else !anyF (rightBad (splitS s ⟨#[44]⟩)) 0 (splitS s ⟨#[44]⟩).length
theorem implRights_eq (s:Za):(F129 s).2=rightsB s:=by
 have e90:∀ t u:Za,F41 t u=splitS t u:=fun _ _=>rfl
 have h:=any_loop (F129_s0 s) (splitS s ⟨#[44]⟩).length (rightBad (splitS s ⟨#[44]⟩)) (([]:List Za),false) (fun r=>r) ((splitS s ⟨#[44]⟩),true) (fun i hi=>by
  have hh:=has_same F143 ((splitS s ⟨#[44]⟩).getD i default)
  unfold F143 at hh
  simp only [F129_s0,e90,Qs (show (i:Int)<((splitS s ⟨#[44]⟩).length:Int) by omega),Qc,Rr,hh]
  rfl) (by simp only [F129_s0,e90,Qq (show ¬ ((splitS s ⟨#[44]⟩).length:Int)<((splitS s ⟨#[44]⟩).length:Int) by omega),Qb]) (splitS s ⟨#[44]⟩).length 0 uu0 (Int.toNat (((splitS s ⟨#[44]⟩).length:Int)-0)+1) uu0
 unfold F129 rightsB
 cases (bif (s.toList==Zr.toList) then true else (s.toList==Zu.toList)) with
 | true=>rfl
 | false =>
  rw [Qb,Qb]
  refine (Qh (fun r:List Za×Bool=>r.2) h).trans ?_
  cases anyF (rightBad (splitS s ⟨#[44]⟩)) 0 (splitS s ⟨#[44]⟩).length <;> rfl
theorem specRights_eq (s:Za):F92 s=rightsB s:=by
 have hc:F85 s 44=splitS s ⟨#[44]⟩:=specCut_split s 44
 have h:=any_loop (F92_s0 s) (splitS s ⟨#[44]⟩).length (rightBad (splitS s ⟨#[44]⟩)) false (fun r=>r) true (fun i hi=>by
  simp only [F92_s0,hc,Qs (show (i:Int)<((splitS s ⟨#[44]⟩).length:Int) by omega),Qc,Rr]
  rfl) (by simp only [F92_s0,hc,Qq (show ¬ ((splitS s ⟨#[44]⟩).length:Int)<((splitS s ⟨#[44]⟩).length:Int) by omega),Qb]) (splitS s ⟨#[44]⟩).length 0 uu0 (Int.toNat (((splitS s ⟨#[44]⟩).length:Int)-0)+1) uu0
 unfold F92 rightsB
 rw [hc]
 cases (bif (s.toList==Zr.toList) then true else (s.toList==Zu.toList)) with
 | true=>rfl
 | false =>
  rw [Qb,Qb]
  refine h.trans ?_
  cases anyF (rightBad (splitS s ⟨#[44]⟩)) 0 (splitS s ⟨#[44]⟩).length <;> rfl
theorem rights_same (s:Za):(F129 s).2=F92 s:=(implRights_eq s).trans (specRights_eq s).symm
theorem number_eq (s:Za):F115 s=num6 s.data.toList:=by
 have hl:s.data.toList.length=s.size:=Q5
 have e209:F149 s=decN s:=rfl
 unfold F115
 by_cases h:s.size<=6
 ·rw [Qq (show ¬ (s.size:Int)>6 by omega),Qb,e209,decN_six s h]
 ·rw [Qs (show (s.size:Int)>6 by omega),Qc]
  unfold num6
  rw [Qq (show ¬ s.data.toList.length<=6 by omega),Sj]; rfl
theorem number_same (s:Za):F115 s=F123 s:=(number_eq s).trans (specNum_eq s).symm
theorem isAddr_same (s:Za):F138 s=decide (F95 s>=0):=by
 unfold F138
 rw [addr_same]
theorem isPrefix_same (s:Za):F136 s=F94 s:=isPfx_same s
theorem isRights_same (s:Za):F135 s=F92 s:=rights_same s
theorem joinS_loop (list:List Za) (sep:Za):∀ (m i:Nat) (out:Za),i+m=list.length->1<=i->∀ fuel,m<fuel ->
  ((runL (F37_s0 list sep) fuel (out,(i:Int))).fin (fun r=>r) (fun (out,i40)=>out)).data.toList=out.data.toList++Lib.joinTail sep.data.toList ((list.drop i).map (·.data.toList))
 | m,i,out,_,_,0,hf=>absurd hf (R5 _)
 | 0,i,out,h,h1,fuel+1,hf=>by
  have hst:F37_s0 list sep (out,(i:Int))=.done (out,(i:Int)):=by
   simp only [F37_s0,Qq (show ¬ (i:Int)<(list.length:Int) by omega),Qb]
  rw [runL_d _ hst,Q3 uu0]
  simp [Lib.joinTail,Lp.fin]
 | m+1,i,out,h,h1,fuel+1,hf=>by
  have hst:F37_s0 list sep (out,(i:Int))=.next ((out++sep)++list.getD i default,((i+1:Nat):Int)):=by
   simp only [F37_s0,Qs (show (i:Int)<(list.length:Int) by omega),Qs (show (i:Int)>0 by omega),Qc,Rr]
   rfl
  rw [runL_n _ hst,joinS_loop list sep m (i+1) _ uu0 uu0 fuel uu0]
  rw [Rd (show i<list.length by omega),Rc,Qe,Qj (show i<list.length by omega)]
  simp [Lib.joinTail,Ti,Tr,Q1]
theorem specJoin_eq (list:List Za) (sep:Za):F37 list sep=joinS list sep:=by
 refine ba_ext ?_
 show _=Lib.join (list.map (·.data.toList)) sep.data.toList
 unfold F37
 cases list with
 | nil=>rfl
 | cons a t =>
  have hst:F37_s0 (a :: t) sep (Zf,0)=.next (Zf++a,((1:Nat):Int)):=by
   simp only [F37_s0,Qs (show (0:Int)<((a :: t).length:Int) by simp only [Qx]; omega),Qq (show ¬ (0:Int)>0 by omega),Qc,Qb]
   rfl
  rw [runL_n _ hst,joinS_loop (a :: t) sep t.length 1 _ uu38 uu0 _ uu38]
  rw [Ti,Tr,List.drop_succ_cons,Ro]
  exact (Lib.join_cons _ _ _).symm
end Go.Proofs.YtabmhncnckahfaaGreatDoor
