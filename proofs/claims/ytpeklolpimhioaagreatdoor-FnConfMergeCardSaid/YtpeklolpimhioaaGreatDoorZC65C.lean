/- A part of the proof of FnConfMerge. Texts put together: MX, LY, DEC, VC0, PS1, VC1, PS2, VC2, PS3, PS4, VF0, PF0, VF1, VF2, PN1, PN2, PN3, PN4, PA1, PA2, PA3, PA4, VF3, PA5, PA6, PA7, PA8, PJ1, VFF. -/
import Derived.Shelf.Strings.Cut
import Derived.Shelf.Strings.Split
import Derived.Shelf.Strings.OnBuilder
import Derived.Shelf.Slices.In.SortAlone
import Derived.Shelf.Slices.In.SortNone
import Derived.Sort.EveryDepth
import Derived.Test.YtpeklolpimhioaaGreatDoorRows
import Derived.Shelf.LaysM
import Derived.Shelf.Strconv.AtoiAll
import Derived.Shelf.Strconv.Itoa3
import Derived.WalkKit
import Derived.BigCall
import Derived.BigGuard
import Derived.Lib.Walk
import Derived.Lib.Hide
import Derived.Lib.IndexBytes
import Derived.Lib.SplitLaws
import Derived.Lib.CutLaws
import Derived.Lib.AtoiAll
import Derived.Lib.ItoaNum
import Derived.Test.YtpeklolpimhioaaGreatDoorZC65B
namespace Go.Proofs.YtpeklolpimhioaaGreatDoor
open Go.RowKit Go.Shelf
set_option linter.unusedVariables false
set_option linter.unusedSimpArgs false
section
variable {P:Program} {ρ:Go.Shelf.Ren}
theorem chg_drewN (SS:Nat->Prop) (w:World) (n:Nat):Chg SS w (w.drewN n):=⟨rfl,rfl,rfl,Qp _,fun _ _ _=>rfl,Nat.le_add_right _ _⟩
theorem chg_alloc (SS:Nat->Prop) (w:World) (o:Obj):Chg SS w (w.alloc o):=Chg.of_below (bpush w o)
def cut3 (s sep:Za):Za×Za×Bool:=(⟨(Lib.cut s.data.toList sep.data.toList).1.toArray⟩,⟨(Lib.cut s.data.toList sep.data.toList).2.1.toArray⟩,(Lib.cut s.data.toList sep.data.toList).2.2)
theorem cut_ok (L:Lays.n145 P ρ) (hg:ρ.g 1∈GBi) (s sep:Za):Spec.ok P (ρ.f 145) ⟨[.r (.c (.v (.string s))),.r (.c (.v (.string sep)))],.tu [.v (.string (cut3 s sep).1),.v (.string (cut3 s sep).2.1),.v (.bool (cut3 s sep).2.2)],s.size<=4294967280⟩:=by
 intro hs S w vs fp hS hG hA
 obtain ⟨u,us,f,g,rfl,⟨⟨rfl,_⟩,rfl⟩,⟨u2,us2,f2,g2,rfl,⟨⟨rfl,_⟩,rfl⟩,⟨rfl,rfl⟩,rfl,_⟩,rfl,_⟩:=hA
 obtain ⟨m,hm⟩:=hG.1.2.1 _ hg
 have hs:s.size<=4294967280:=hs
 refine (Any.strings_Cut L s sep m w uu0 hm).mono fun e w' ⟨h1,n,h2⟩=>?_
 subst h2
 exact ⟨_,[],[],h1,⟨[_,_,_],rfl,_,_,[],[],rfl,⟨rfl,rfl,rfl⟩,⟨_,_,[],[],rfl,⟨rfl,rfl,rfl⟩,⟨_,_,[],[],rfl,⟨rfl,rfl,rfl⟩,⟨rfl,rfl⟩,rfl⟩,rfl⟩,rfl⟩,
  ⟨_,_,[],[],rfl,rfl,⟨_,_,[],[],rfl,rfl,rfl,rfl⟩,rfl⟩,Q2,fun b hb=>by simp at hb,chg_drewN _ w n⟩
def splitS (s sep:Za):List Za:=Lib.splitB sep 0 (Lib.countB s sep) s
theorem ow_strs (w:World):∀ ys:List Za,OwVs w (ys.map eStr).flatten (ys.map Value.string) []
 | []=>⟨rfl,rfl⟩
 | y :: ys=>⟨.string y,ys.map Value.string,[],[],rfl,⟨rfl,rfl,rfl⟩,ow_strs w ys,rfl,Q2⟩
theorem splitS_len (s sep:Za) (h1:1<=sep.size):(splitS s sep).length=Lib.countB s sep+1:=Lib.splitB_all sep h1 0 _ s rfl
theorem split_ok (L:Lays.n146 P ρ) (hi9:(P.info? (ρ.t 9)).map (fun i=>(i.zero,i.size,i.bytes))=some (some (.string ByteArray.empty),1,16)) (hg:ρ.g 1∈GBi) (s sep:Za) :
  Spec.ok P (ρ.f 146) ⟨[.r (.c (.v (.string s))),.r (.c (.v (.string sep)))],.ow (.l 1 eStr (splitS s sep)),s.size<=4294967280/\1<=sep.size⟩:=by
 intro ⟨hs,h1⟩ S w vs fp hS hG hA
 obtain ⟨u,us,f,g,rfl,⟨⟨rfl,_⟩,rfl⟩,⟨u2,us2,f2,g2,rfl,⟨⟨rfl,_⟩,rfl⟩,⟨rfl,rfl⟩,rfl,_⟩,rfl,_⟩:=hA
 obtain ⟨m,hm⟩:=hG.1.2.1 _ hg
 have hle:=Lib.countB_le sep h1 s.size s (Qp _)
 have hlen:=splitS_len s sep h1
 refine (Any.strings_Split L hi9 s sep m w uu0 hm h1).mono fun e w' ⟨h2,h3⟩=>?_
 subst h3
 refine ⟨_,[w.heap.size],[],h2,?_,⟨_,_,[],[],rfl,rfl,⟨_,_,[],[],rfl,rfl,rfl,rfl⟩,rfl⟩,by simp,fun b hb=>?_,(chg_alloc _ w _).toD _⟩
 ·rw [<- hlen]
  refine own_of_split (ys:=splitS s sep) (vs:=(splitS s sep).map Value.string) (rest:=[]) (c:=(splitS s sep).length) (T:=ρ.t 9) (ow_strs _ _) (fun y _=>rfl) (bpush w _) (by simp) ?_ (by simp) (Qp _) uu0
  simp only [Si]
  exact heap_alloc_new w _
 ·have hb:b=w.heap.size:=by simpa using hb
  subst hb
  exact ⟨by simp,.inr (Qp _)⟩
theorem splitS_pos (s sep:Za) (h1:1<=sep.size):1<=(splitS s sep).length:=(splitS_len s sep h1).symm ▸ Nat.le_add_left 1 _
theorem splitS_le (s sep:Za) (h1:1<=sep.size):(splitS s sep).length<=s.size+1:=by
 rw [splitS_len s sep h1]
 have:=Lib.countB_le sep h1 s.size s (Qp _)
 omega
theorem cut3_le1 (s sep:Za):((cut3 s sep).1.size:Int)<=(s.size:Int):=by
 have:(cut3 s sep).1.size<=s.size:=by
  show (Lib.cut s.data.toList sep.data.toList).1.toArray.size<=s.data.size
  unfold Lib.cut
  split
  ·simp only [Gn,R4,To]
   have:s.data.toList.length=s.data.size:=by simp
   omega
  ·simp
 omega
theorem cut3_le2 (s sep:Za):((cut3 s sep).2.1.size:Int)<=(s.size:Int):=by
 have:(cut3 s sep).2.1.size<=s.size:=by
  show (Lib.cut s.data.toList sep.data.toList).2.1.toArray.size<=s.data.size
  unfold Lib.cut
  split
  ·simp only [Gn,R4,To]
   have:s.data.toList.length=s.data.size:=by simp
   omega
  ·simp
 omega
def joinS (xs:List Za) (sep:Za):Za:=⟨(Lib.join (xs.map (·.data.toList)) sep.data.toList).toArray⟩
theorem join_ok (L:Lays.n156 P ρ) (X:Builder.Extra P ρ) (xs:List Za) (sep:Za) :
  Spec.ok P (ρ.f 156) ⟨[.r (.c (.l 1 eStr xs)),.r (.c (.v (.string sep)))],.v (.string (joinS xs sep)),xs.length<=140737488355328/\(joinS xs sep).size<=140737488355328⟩ false:=by
 intro ⟨hl,hj⟩ S w vs fp hS hG hA
 obtain ⟨u,us,f,g,rfl,⟨⟨a,c,rfl,hc,h63,hx⟩,rfl⟩,⟨u2,us2,f2,g2,rfl,⟨⟨rfl,_⟩,rfl⟩,⟨rfl,rfl⟩,rfl,_⟩,rfl,_⟩:=hA
 have fin:∀ (e:Ending) (w':World),e=.returned (.string (joinS xs sep))->Below w.heap.size w w'->∃ rv fr fb,e=.returned rv/\RTOK w' (.v (.string (joinS xs sep))) rv fr/\BehsOK w' [.r (.c (.l 1 eStr xs)),.r (.c (.v (.string sep)))] [.slice a xs.length c,.string sep] fb/\(fr++fb).Nodup/\(∀ b∈fr++fb,b<w'.heap.size/\(b∈([]++([]++[]):List Nat)\/w.heap.size<=b))/\Chg (·∈([]++([]++[]):List Nat)) (atD false w) w' :=
  fun e w' h1 h2=>⟨_,[],[],h1,⟨rfl,rfl,rfl⟩,⟨_,_,[],[],rfl,rfl,⟨_,_,[],[],rfl,rfl,rfl,rfl⟩,rfl⟩,Q2,fun b hb=>by simp at hb,⟨h2.os,h2.tape,h2.output,h2.size,fun k hk _=>h2.block k hk,Rj _⟩⟩
 cases xs with
 | nil =>
  refine (Any.strings_Join_none L X a c sep w).mono fun e w' ⟨h1,h2⟩=>fin e w' ?_ (h2 ▸ Below.refl _ _)
  rw [h1]; rfl
 | cons x xs =>
  obtain ⟨ha,hSb,_⟩:=hx 0 x rfl
  rw [ha]
  refine (Any.strings_Join L X (ab a) (ao a) c (x :: xs) sep w (fun j y hy=>?_) (hS _ hSb).1 hl hc (by simpa [joinS,ByteArray.size] using hj)).mono fun e w' ⟨h1,h2⟩=>?_
  ·obtain ⟨_,_,cs,h1,h2,h3⟩:=hx j y hy
   obtain ⟨u,us,rfl,⟨rfl,_⟩,_⟩:=h3
   have:=h2 0 _ rfl
   simpa using this
  ·have:=fin e w' h1 h2
   rw [ha] at this
   exact this
def sortS (xs:List Za):List Za:=((xs.map (·.data.toList)).mergeSort fun x y=>decide (x<=y)).map fun l=>⟨l.toArray⟩
theorem sortS_len (xs:List Za):(sortS xs).length=xs.length:=by simp [sortS,List.length_mergeSort]
open Go.Sort in
theorem sortS_ok (L:Lays.n190 P ρ) (xs:List Za) :
  Spec.ok P (ρ.f 190) ⟨[.ow (.l 1 eStr xs) (some (.l 1 eStr (sortS xs)))],.tu [],xs.length<=4000000000000000000⟩:=by
 intro hl S w vs fp hS hG hA
 have hl:xs.length<=4000000000000000000:=hl
 obtain ⟨u,us,f,g,rfl,hO,⟨rfl,rfl⟩,rfl,hnd⟩:=hA
 simp only [Si] at hnd hS ⊢
 obtain ⟨a,c,rfl,hc,h63,hO⟩:=hO
 by_cases hx:xs=[]
 ·subst hx
  refine (calls_of_every_depth fun D=>AnyS.slices_Sort_string_none_in L D a c w).mono fun e' w' ⟨h1,h2⟩=>?_
  subst h2
  have hs:sortS []=[]:=by simp [sortS]
  refine ⟨_,[],f,h1,⟨[],rfl,rfl,rfl⟩,⟨_,_,f,[],rfl,?_,rfl,by simp⟩,by simpa using hnd,fun b hb=>?_,(Chg.of_below (Bel.refl _ _)).toD _⟩
  ·show OwV w' (.l 1 eStr (sortS [])) _ f
   rw [hs]; exact ⟨a,c,rfl,hc,h63,hO⟩
  ·have hb:b∈f:=by simpa using hb
   exact ⟨OwV.lt (.l 1 eStr ([]:List Za)) _ f ⟨a,c,rfl,hc,h63,hO⟩ b hb,.inl hb⟩
 rcases hO with ⟨_,rfl,_⟩ | ⟨b,o,T,cells,fps,rfl,hbox,hlen,hfl,hel,rfl,hnd'⟩
 ·exact absurd rfl hx
 let zs:List (List UInt8):=xs.map (·.data.toList)
 have hzl:zs.length=xs.length:=by simp [zs]
 let ss:List (List UInt8):=zs.mergeSort fun x y=>decide (x<=y)
 have hsl:ss.length=xs.length:=by simp [ss,List.length_mergeSort,hzl]
 have hcell:∀ i (hi:i<xs.length),cells[o+i]?=some (.string xs[i])/\fps[i]'uu0=[]:=fun i hi=>by
  obtain ⟨h1,h2⟩:=hel i xs[i] (fps[i]'uu0) (Qe hi) (Qe _)
  obtain ⟨v,vs',f1,f2,h3,⟨rfl,_,rfl⟩,⟨rfl,rfl⟩,h4,_⟩:=h2
  refine ⟨?_,by rw [h4]; rfl⟩
  have:=Qg (fun l:List Value=>l[0]?) h3
  simpa [Rg,Rt] using this
 have hH:Go.Sort.Holds encStr w b o zs.toArray:=by
  intro j hj
  have hj':j<xs.length:=by simpa [zs] using hj
  have hb':w.heap[b]?=some (.cells cells.toArray T (0,0)):=hbox
  refine ⟨?_,by simp [World.frozen?,hb']⟩
  rw [getElem!_pos zs.toArray j hj]
  simp only [World.cell?,hb']
  simp only [Option.isSome_none,Tm,G1,List.getElem?_toArray]
  rw [(hcell j hj').1]
  simp [zs,encStr]
 have hcall:=calls_of_every_depth fun D=>AnyS.slices_Sort_string_alone L D b o c zs w hH hbox.lt uu0
 rw [hzl] at hcall
 refine hcall.mono fun e' w' ⟨h1,n,os,hw'⟩=>?_
 have hsz:(putRow encStr (Sort.ahead w n) b o ss.toArray).heap.size=w.heap.size:=by simp [putRow,mapBlock,Sort.ahead]
 have s1:∀ b',b'<w.heap.size->b'≠b->w'.heap[b']?=w.heap[b']?:=fun b' hb' hne=>by
  rw [hw']
  show ((putRow encStr (Sort.ahead w n) b o ss.toArray).heap++os)[b']?=_
  rw [Tg (by rw [hsz]; exact hb')]
  simp only [putRow,mapBlock,Sort.ahead,Gj]
  rw [if_neg (Ne.symm hne)]
 have s2:w.heap.size<=w'.heap.size:=by
  rw [hw']
  show _<=((putRow encStr (Sort.ahead w n) b o ss.toArray).heap++os).size
  rw [Array.size_append,hsz]; omega
 let cells':List Value:=(putCells encStr o ss.toArray cells.toArray).toList
 have hcl:cells'.length=cells.length:=by simp [cells',putCells]
 have hbox':Box w' b T cells':=by
  show w'.heap[b]?=_
  rw [hw']
  show ((putRow encStr (Sort.ahead w n) b o ss.toArray).heap++os)[b]?=_
  have hb':w.heap[b]?=some (.cells cells.toArray T (0,0)):=hbox
  rw [Tg (by rw [hsz]; exact hbox.lt)]
  simp only [putRow,mapBlock,Sort.ahead,Gj,Sv,hb',T5,onCells]
  simp [cells']
 have hc':∀ i (hi:i<xs.length),cells'[o+i]?=some (.string ((sortS xs)[i]'(by rw [sortS_len]; exact hi))):=fun i hi=>by
  have hin:o+i<cells.length:=by omega
  simp only [cells',putCells,Tl,Array.getElem?_mapIdx]
  rw [R5 (by simp; omega)]
  simp only [T5]
  rw [if_pos ⟨by omega,by simp only [Gn]; omega⟩]
  have e1:o+i-o=i:=by omega
  rw [e1,getElem!_pos ss.toArray i (by simp only [Gn]; omega)]
  simp [encStr,sortS,ss,zs]
 refine ⟨_,[],b :: fps.flatten,h1,⟨[],rfl,rfl,rfl⟩,⟨_,_,b :: fps.flatten,[],rfl,?_,rfl,by simp⟩,by simpa using hnd',fun b' hb'=>?_,Chg.toD _ ?_⟩
 ·have hflat:fps.flatten=[]:=by
   rw [List.flatten_eq_nil_iff]
   intro f hf
   obtain ⟨i,hi,rfl⟩:=List.getElem_of_mem hf
   exact (hcell i uu0).2
  show OwV w' (.l 1 eStr (sortS xs)) _ _
  refine ⟨_,c,by rw [sortS_len],by rw [sortS_len]; exact hc,by rw [sortS_len]; exact h63,.inr ⟨b,o,T,cells',List.replicate xs.length [],rfl,hbox',by rw [hcl,hlen],by simp [sortS_len],fun i x f hx hf=>?_,by rw [hflat]; simp,hnd'⟩⟩
  have hi:i<xs.length:=by have:=(Qo.1 hx).1; rwa [sortS_len] at this
  have hf':f=[]:=by
   rw [List.getElem?_replicate,if_pos hi] at hf
   exact (Sm hf).symm
  have hxe:(sortS xs)[i]'(by rw [sortS_len]; exact hi)=x:=(Qo.1 hx).2
  have htk:(cells'.drop (o+i*1)).take 1=[.string x]:=by
   have h2:=hc' i hi
   rw [hxe] at h2
   refine T9 fun j=>?_
   rw [Rg,Nat.mul_one]
   cases j with
   | zero=>simp [Rt,h2]
   | succ j=>simp
  rw [htk,hf']
  exact ⟨rfl,_,_,[],[],rfl,⟨rfl,rfl,rfl⟩,⟨rfl,rfl⟩,rfl,Q2⟩
 ·have hb2:b'∈b :: fps.flatten:=by simpa using hb'
  refine ⟨Rm ?_ s2,.inl hb2⟩
  rcases Qr.1 hb2 with rfl | h
  ·exact hbox.lt
  ·exact OwV.lt (.l 1 eStr xs) _ _ ⟨_,c,rfl,hc,h63,.inr ⟨b,o,T,cells,fps,rfl,hbox,hlen,hfl,hel,rfl,hnd'⟩⟩ b' (Qj _ h)
 ·refine ⟨by rw [hw']; rfl,by rw [hw']; rfl,by rw [hw']; rfl,s2,fun k' hk' hn=>s1 k' hk' fun e=>hn (by rw [e]; exact Ql),?_⟩
  rw [hw']
  show w.drawn<=w.drawn+n
  omega
end
end Go.Proofs.YtpeklolpimhioaaGreatDoor
namespace Go.Proofs.YtpeklolpimhioaaGreatDoor
open Go.Shelf Go.RowKit
def laySortS_ren:Go.Shelf.Ren:=⟨fun | 190=>17 | 125=>36 | 258=>35 | 128=>62 | 129=>63 | 302=>53 | 303=>54 | 304=>55 | 305=>56 | 306=>57 | 307=>58 | 308=>59 | 309=>60 | 310=>61 | 333=>82 | 329=>83 | 330=>84 | 334=>85 | 335=>86 | 336=>87 | 344=>115 | n=>n,fun | 31=>23 | 9=>9 | 3=>3 | 46=>63 | 0=>0 | 51=>91 | 53=>93 | 4=>4 | 183=>83 | 182=>82 | 131=>88 | 5=>5 | 218=>102 | 222=>106 | 228=>127 | 229=>128 | n=>n,fun | n=>n⟩
theorem laySortS:Go.Proofs.Lays.n190 Tryz.prog laySortS_ren:={
 mixed:=by kernel_rfl
 f125:=Tryz.func36.trans (Qg some (by kernel_rfl))
 f128:=Tryz.func62.trans (Qg some (by kernel_rfl))
 f129:=Tryz.func63.trans (Qg some (by kernel_rfl))
 f190:=Tryz.func17.trans (Qg some (by kernel_rfl))
 f258:=Tryz.func35.trans (Qg some (by kernel_rfl))
 f302:=Tryz.func53.trans (Qg some (by kernel_rfl))
 f303:=Tryz.func54.trans (Qg some (by kernel_rfl))
 f304:=Tryz.func55.trans (Qg some (by kernel_rfl))
 f305:=Tryz.func56.trans (Qg some (by kernel_rfl))
 f306:=Tryz.func57.trans (Qg some (by kernel_rfl))
 f307:=Tryz.func58.trans (Qg some (by kernel_rfl))
 f308:=Tryz.func59.trans (Qg some (by kernel_rfl))
 f309:=Tryz.func60.trans (Qg some (by kernel_rfl))
 f310:=Tryz.func61.trans (Qg some (by kernel_rfl))
 f329:=Tryz.func83.trans (Qg some (by kernel_rfl))
 f330:=Tryz.func84.trans (Qg some (by kernel_rfl))
 f333:=Tryz.func82.trans (Qg some (by kernel_rfl))
 f334:=Tryz.func85.trans (Qg some (by kernel_rfl))
 f335:=Tryz.func86.trans (Qg some (by kernel_rfl))
 f336:=Tryz.func87.trans (Qg some (by kernel_rfl))
 f344:=Tryz.func115.trans (Qg some (by kernel_rfl))
 t0:=Tryz.underlying0
 a0:=Tryz.isAgg0
 z0:=Tryz.sizeOf0
 v0:=Tryz.zeroValue0
 t3:=Tryz.underlying3
 a3:=Tryz.isAgg3
 z3:=Tryz.sizeOf3
 v3:=Tryz.zeroValue3
 t4:=Tryz.underlying4
 a4:=Tryz.isAgg4
 z4:=Tryz.sizeOf4
 v4:=Tryz.zeroValue4
 t5:=Tryz.underlying5
 a5:=Tryz.isAgg5
 z5:=Tryz.sizeOf5
 v5:=Tryz.zeroValue5
 t9:=Tryz.underlying9
 a9:=Tryz.isAgg9
 z9:=Tryz.sizeOf9
 v9:=Tryz.zeroValue9
 t31:=Tryz.underlying23
 a31:=Tryz.isAgg23
 z31:=Tryz.sizeOf23
 v31:=Tryz.zeroValue23
 t46:=Tryz.underlying63
 a46:=Tryz.isAgg63
 z46:=Tryz.sizeOf63
 v46:=Tryz.zeroValue63
 t51:=Tryz.underlying91
 a51:=Tryz.isAgg91
 z51:=Tryz.sizeOf91
 v51:=Tryz.zeroValue91
 t53:=Tryz.underlying93
 a53:=Tryz.isAgg93
 z53:=Tryz.sizeOf93
 v53:=Tryz.zeroValue93
 t131:=Tryz.underlying88
 a131:=Tryz.isAgg88
 z131:=Tryz.sizeOf88
 v131:=Tryz.zeroValue88
 t182:=Tryz.underlying82
 a182:=Tryz.isAgg82
 z182:=Tryz.sizeOf82
 v182:=Tryz.zeroValue82
 t183:=Tryz.underlying83
 a183:=Tryz.isAgg83
 z183:=Tryz.sizeOf83
 v183:=Tryz.zeroValue83
 t218:=Tryz.underlying102
 a218:=Tryz.isAgg102
 z218:=Tryz.sizeOf102
 v218:=Tryz.zeroValue102
 t222:=Tryz.underlying106
 a222:=Tryz.isAgg106
 z222:=Tryz.sizeOf106
 v222:=Tryz.zeroValue106
 t228:=Tryz.underlying127
 a228:=Tryz.isAgg127
 z228:=Tryz.sizeOf127
 v228:=Tryz.zeroValue127
 t229:=Tryz.underlying128
 a229:=Tryz.isAgg128
 z229:=Tryz.sizeOf128
 v229:=Tryz.zeroValue128 }
def laySplit_ren:Go.Shelf.Ren:=⟨fun | 146=>32 | 221=>47 | 268=>69 | 138=>70 | 143=>71 | 195=>101 | 197=>102 | 218=>103 | 219=>104 | 260=>129 | 217=>130 | 225=>131 | 224=>132 | 267=>133 | 266=>141 | 314=>142 | n=>n,fun | 9=>9 | 31=>23 | 3=>3 | 4=>4 | 0=>0 | 105=>116 | 21=>21 | 5=>5 | 46=>63 | 119=>142 | 139=>145 | 138=>144 | 146=>146 | 51=>91 | n=>n,fun | 1=>0 | 3=>1 | 4=>2 | n=>n⟩
theorem laySplit:Go.Proofs.Lays.n146 Tryz.prog laySplit_ren:={
 mixed:=by kernel_rfl
 f138:=Tryz.func70.trans (Qg some (by kernel_rfl))
 f143:=Tryz.func71.trans (Qg some (by kernel_rfl))
 f146:=Tryz.func32.trans (Qg some (by kernel_rfl))
 f195:=Tryz.func101.trans (Qg some (by kernel_rfl))
 f197:=Tryz.func102.trans (Qg some (by kernel_rfl))
 f217:=Tryz.func130.trans (Qg some (by kernel_rfl))
 f218:=Tryz.func103.trans (Qg some (by kernel_rfl))
 f219:=Tryz.func104.trans (Qg some (by kernel_rfl))
 f221:=Tryz.func47.trans (Qg some (by kernel_rfl))
 f224:=Tryz.func132.trans (Qg some (by kernel_rfl))
 f225:=Tryz.func131.trans (Qg some (by kernel_rfl))
 f260:=Tryz.func129.trans (Qg some (by kernel_rfl))
 f266:=Tryz.func141.trans (Qg some (by kernel_rfl))
 f267:=Tryz.func133.trans (Qg some (by kernel_rfl))
 f268:=Tryz.func69.trans (Qg some (by kernel_rfl))
 f314:=Tryz.func142.trans (Qg some (by kernel_rfl))
 t0:=Tryz.underlying0
 a0:=Tryz.isAgg0
 z0:=Tryz.sizeOf0
 v0:=Tryz.zeroValue0
 t3:=Tryz.underlying3
 a3:=Tryz.isAgg3
 z3:=Tryz.sizeOf3
 v3:=Tryz.zeroValue3
 t4:=Tryz.underlying4
 a4:=Tryz.isAgg4
 z4:=Tryz.sizeOf4
 v4:=Tryz.zeroValue4
 t5:=Tryz.underlying5
 a5:=Tryz.isAgg5
 z5:=Tryz.sizeOf5
 v5:=Tryz.zeroValue5
 t9:=Tryz.underlying9
 a9:=Tryz.isAgg9
 z9:=Tryz.sizeOf9
 v9:=Tryz.zeroValue9
 t21:=Tryz.underlying21
 a21:=Tryz.isAgg21
 z21:=Tryz.sizeOf21
 v21:=Tryz.zeroValue21
 t31:=Tryz.underlying23
 a31:=Tryz.isAgg23
 z31:=Tryz.sizeOf23
 v31:=Tryz.zeroValue23
 t46:=Tryz.underlying63
 a46:=Tryz.isAgg63
 z46:=Tryz.sizeOf63
 v46:=Tryz.zeroValue63
 t51:=Tryz.underlying91
 a51:=Tryz.isAgg91
 z51:=Tryz.sizeOf91
 v51:=Tryz.zeroValue91
 t105:=Tryz.underlying116
 a105:=Tryz.isAgg116
 z105:=Tryz.sizeOf116
 v105:=Tryz.zeroValue116
 t119:=Tryz.underlying142
 a119:=Tryz.isAgg142
 z119:=Tryz.sizeOf142
 t138:=Tryz.underlying144
 a138:=Tryz.isAgg144
 z138:=Tryz.sizeOf144
 v138:=Tryz.zeroValue144
 t139:=Tryz.underlying145
 a139:=Tryz.isAgg145
 z139:=Tryz.sizeOf145
 v139:=Tryz.zeroValue145
 t146:=Tryz.underlying146
 a146:=Tryz.isAgg146
 z146:=Tryz.sizeOf146
 v146:=Tryz.zeroValue146
 g1:=by kernel_rfl
 g3:=by kernel_rfl
 g4:=by kernel_rfl }
def layJoin_ren:Go.Shelf.Ren:=⟨fun | 156=>34 | 165=>50 | 166=>51 | 169=>52 | 240=>80 | 241=>81 | 276=>113 | 277=>114 | n=>n,fun | 31=>23 | 9=>9 | 3=>3 | 4=>4 | 0=>0 | 20=>20 | 72=>74 | 76=>78 | 70=>72 | 37=>22 | 75=>77 | 127=>101 | 164=>124 | 5=>5 | 80=>80 | n=>n,fun | n=>n⟩
theorem layJoin:Go.Proofs.Lays.n156 Tryz.prog layJoin_ren:={
 mixed:=by kernel_rfl
 f156:=Tryz.func34.trans (Qg some (by kernel_rfl))
 f165:=Tryz.func50.trans (Qg some (by kernel_rfl))
 f166:=Tryz.func51.trans (Qg some (by kernel_rfl))
 f169:=Tryz.func52.trans (Qg some (by kernel_rfl))
 f240:=Tryz.func80.trans (Qg some (by kernel_rfl))
 f241:=Tryz.func81.trans (Qg some (by kernel_rfl))
 f276:=Tryz.func113.trans (Qg some (by kernel_rfl))
 f277:=Tryz.func114.trans (Qg some (by kernel_rfl))
 t0:=Tryz.underlying0
 a0:=Tryz.isAgg0
 z0:=Tryz.sizeOf0
 v0:=Tryz.zeroValue0
 t3:=Tryz.underlying3
 a3:=Tryz.isAgg3
 z3:=Tryz.sizeOf3
 v3:=Tryz.zeroValue3
 t4:=Tryz.underlying4
 a4:=Tryz.isAgg4
 z4:=Tryz.sizeOf4
 v4:=Tryz.zeroValue4
 t9:=Tryz.underlying9
 a9:=Tryz.isAgg9
 z9:=Tryz.sizeOf9
 v9:=Tryz.zeroValue9
 t20:=Tryz.underlying20
 a20:=Tryz.isAgg20
 z20:=Tryz.sizeOf20
 v20:=Tryz.zeroValue20
 t31:=Tryz.underlying23
 a31:=Tryz.isAgg23
 z31:=Tryz.sizeOf23
 v31:=Tryz.zeroValue23
 t37:=Tryz.underlying22
 a37:=Tryz.isAgg22
 z37:=Tryz.sizeOf22
 v37:=Tryz.zeroValue22
 t70:=Tryz.underlying72
 a70:=Tryz.isAgg72
 z70:=Tryz.sizeOf72
 v70:=Tryz.zeroValue72
 t72:=Tryz.underlying74
 a72:=Tryz.isAgg74
 z72:=Tryz.sizeOf74
 v72:=Tryz.zeroValue74
 t75:=Tryz.underlying77
 a75:=Tryz.isAgg77
 z75:=Tryz.sizeOf77
 v75:=Tryz.zeroValue77
 t76:=Tryz.underlying78
 a76:=Tryz.isAgg78
 z76:=Tryz.sizeOf78
 v76:=Tryz.zeroValue78
 t127:=Tryz.underlying101
 a127:=Tryz.isAgg101
 z127:=Tryz.sizeOf101
 v127:=Tryz.zeroValue101
 t164:=Tryz.underlying124
 a164:=Tryz.isAgg124
 z164:=Tryz.sizeOf124
 v164:=Tryz.zeroValue124 }
def layCut_ren:Go.Shelf.Ren:=⟨fun | 145=>96 | 220=>128 | 219=>104 | 217=>130 | 225=>131 | 224=>132 | 267=>133 | 266=>141 | 314=>142 | n=>n,fun | 9=>9 | 4=>4 | 59=>111 | 3=>3 | 5=>5 | 46=>63 | 146=>146 | 51=>91 | n=>n,fun | 1=>0 | n=>n⟩
theorem layCut:Go.Proofs.Lays.n145 Tryz.prog layCut_ren:={
 mixed:=by kernel_rfl
 f145:=Tryz.func96.trans (Qg some (by kernel_rfl))
 f217:=Tryz.func130.trans (Qg some (by kernel_rfl))
 f219:=Tryz.func104.trans (Qg some (by kernel_rfl))
 f220:=Tryz.func128.trans (Qg some (by kernel_rfl))
 f224:=Tryz.func132.trans (Qg some (by kernel_rfl))
 f225:=Tryz.func131.trans (Qg some (by kernel_rfl))
 f266:=Tryz.func141.trans (Qg some (by kernel_rfl))
 f267:=Tryz.func133.trans (Qg some (by kernel_rfl))
 f314:=Tryz.func142.trans (Qg some (by kernel_rfl))
 t3:=Tryz.underlying3
 a3:=Tryz.isAgg3
 z3:=Tryz.sizeOf3
 v3:=Tryz.zeroValue3
 t4:=Tryz.underlying4
 a4:=Tryz.isAgg4
 z4:=Tryz.sizeOf4
 v4:=Tryz.zeroValue4
 t5:=Tryz.underlying5
 a5:=Tryz.isAgg5
 z5:=Tryz.sizeOf5
 v5:=Tryz.zeroValue5
 t9:=Tryz.underlying9
 a9:=Tryz.isAgg9
 z9:=Tryz.sizeOf9
 v9:=Tryz.zeroValue9
 t46:=Tryz.underlying63
 a46:=Tryz.isAgg63
 z46:=Tryz.sizeOf63
 v46:=Tryz.zeroValue63
 t51:=Tryz.underlying91
 a51:=Tryz.isAgg91
 z51:=Tryz.sizeOf91
 v51:=Tryz.zeroValue91
 t59:=Tryz.underlying111
 a59:=Tryz.isAgg111
 z59:=Tryz.sizeOf111
 v59:=Tryz.zeroValue111
 t146:=Tryz.underlying146
 a146:=Tryz.isAgg146
 z146:=Tryz.sizeOf146
 v146:=Tryz.zeroValue146
 g1:=by kernel_rfl }
def layCutM_ren:Go.Shelf.Ren:=⟨fun | 145=>96 | 220=>128 | 219=>104 | 217=>130 | 225=>131 | 224=>132 | 267=>133 | 266=>141 | 314=>142 | n=>n,fun | 9=>9 | 4=>4 | 59=>111 | 3=>3 | 5=>5 | 46=>63 | 146=>146 | 51=>91 | n=>n,fun | 1=>0 | n=>n⟩
theorem layCutM:Go.Proofs.LaysM.n145 Tryz.prog layCutM_ren:={
 mixed:=by kernel_rfl
 f145:=Tryz.func96.trans (Qg some (by kernel_rfl))
 f217:=Tryz.func130.trans (Qg some (by kernel_rfl))
 f219:=Tryz.func104.trans (Qg some (by kernel_rfl))
 f220:=Tryz.func128.trans (Qg some (by kernel_rfl))
 f224:=Tryz.func132.trans (Qg some (by kernel_rfl))
 f225:=Tryz.func131.trans (Qg some (by kernel_rfl))
 f266:=Tryz.func141.trans (Qg some (by kernel_rfl))
 f267:=Tryz.func133.trans (Qg some (by kernel_rfl))
 f314:=Tryz.func142.trans (Qg some (by kernel_rfl))
 t3:=Tryz.underlying3
 a3:=Tryz.isAgg3
 z3:=Tryz.sizeOf3
 v3:=Tryz.zeroValue3
 t4:=Tryz.underlying4
 a4:=Tryz.isAgg4
 z4:=Tryz.sizeOf4
 v4:=Tryz.zeroValue4
 t5:=Tryz.underlying5
 a5:=Tryz.isAgg5
 z5:=Tryz.sizeOf5
 v5:=Tryz.zeroValue5
 t9:=Tryz.underlying9
 a9:=Tryz.isAgg9
 z9:=Tryz.sizeOf9
 v9:=Tryz.zeroValue9
 t46:=Tryz.underlying63
 a46:=Tryz.isAgg63
 z46:=Tryz.sizeOf63
 v46:=Tryz.zeroValue63
 t51:=Tryz.underlying91
 a51:=Tryz.isAgg91
 z51:=Tryz.sizeOf91
 v51:=Tryz.zeroValue91
 t59:=Tryz.underlying111
 a59:=Tryz.isAgg111
 z59:=Tryz.sizeOf111
 v59:=Tryz.zeroValue111
 t146:=Tryz.underlying146
 a146:=Tryz.isAgg146
 z146:=Tryz.sizeOf146
 v146:=Tryz.zeroValue146
 g1:=by kernel_rfl
 i3:=by kernel_rfl
 i4:=by kernel_rfl
 i5:=by kernel_rfl
 i9:=by kernel_rfl
 i46:=by kernel_rfl
 i51:=by kernel_rfl
 i59:=by kernel_rfl
 i146:=by kernel_rfl
 m1:=by kernel_rfl
 s1_3:=fun w h=>Go.Proofs.cell_of_shapedOpen_int (zero:=#[.int .i64 0]) (t:=3) h (Qb (by kernel_rfl)) (by kernel_rfl) rfl (by kernel_rfl) (by kernel_rfl) Tryz.underlying3 }
def layAtoi_ren:Go.Shelf.Ren:=⟨fun | 172=>143 | 244=>146 | 245=>147 | 247=>149 | 279=>150 | 280=>151 | 281=>152 | 282=>153 | 287=>155 | 316=>156 | 171=>144 | 205=>157 | 321=>162 | 322=>163 | 243=>148 | 246=>154 | 283=>158 | 284=>159 | 285=>160 | 286=>161 | 129=>63 | 317=>164 | 318=>165 | 319=>166 | 320=>167 | 337=>168 | 338=>169 | n=>n,fun | 9=>9 | 3=>3 | 75=>77 | 76=>78 | 4=>4 | 5=>5 | 167=>150 | 37=>22 | 0=>0 | 85=>151 | 2=>2 | 168=>153 | 53=>93 | 175=>157 | 46=>63 | 210=>160 | 127=>101 | 145=>169 | 143=>167 | 21=>21 | 171=>162 | 173=>164 | 212=>171 | 51=>91 | 20=>20 | 213=>172 | 232=>174 | 233=>175 | 80=>80 | n=>n,fun | 15=>3 | 16=>4 | 17=>5 | 18=>6 | 19=>7 | n=>n⟩
theorem layAtoi:Go.Proofs.LaysC.n172 Tryz.prog layAtoi_ren:={
 mixed:=by kernel_rfl
 f129:=Tryz.func63.trans (Qg some (by kernel_rfl))
 f171:=Tryz.func144.trans (Qg some (by kernel_rfl))
 f172:=Tryz.func143.trans (Qg some (by kernel_rfl))
 f205:=Tryz.func157.trans (Qg some (by kernel_rfl))
 f243:=Tryz.func148.trans (Qg some (by kernel_rfl))
 f244:=Tryz.func146.trans (Qg some (by kernel_rfl))
 f245:=Tryz.func147.trans (Qg some (by kernel_rfl))
 f246:=Tryz.func154.trans (Qg some (by kernel_rfl))
 f247:=Tryz.func149.trans (Qg some (by kernel_rfl))
 f279:=Tryz.func150.trans (Qg some (by kernel_rfl))
 f280:=Tryz.func151.trans (Qg some (by kernel_rfl))
 f281:=Tryz.func152.trans (Qg some (by kernel_rfl))
 f282:=Tryz.func153.trans (Qg some (by kernel_rfl))
 f283:=Tryz.func158.trans (Qg some (by kernel_rfl))
 f284:=Tryz.func159.trans (Qg some (by kernel_rfl))
 f285:=Tryz.func160.trans (Qg some (by kernel_rfl))
 f286:=Tryz.func161.trans (Qg some (by kernel_rfl))
 f287:=Tryz.func155.trans (Qg some (by kernel_rfl))
 f316:=Tryz.func156.trans (Qg some (by kernel_rfl))
 f317:=Tryz.func164.trans (Qg some (by kernel_rfl))
 f318:=Tryz.func165.trans (Qg some (by kernel_rfl))
 f319:=Tryz.func166.trans (Qg some (by kernel_rfl))
 f320:=Tryz.func167.trans (Qg some (by kernel_rfl))
 f321:=Tryz.func162.trans (Qg some (by kernel_rfl))
 f322:=Tryz.func163.trans (Qg some (by kernel_rfl))
 f337:=Tryz.func168.trans (Qg some (by kernel_rfl))
 f338:=Tryz.func169.trans (Qg some (by kernel_rfl))
 t0:=Tryz.underlying0
 a0:=Tryz.isAgg0
 z0:=Tryz.sizeOf0
 v0:=Tryz.zeroValue0
 t2:=Tryz.underlying2
 a2:=Tryz.isAgg2
 z2:=Tryz.sizeOf2
 v2:=Tryz.zeroValue2
 t3:=Tryz.underlying3
 a3:=Tryz.isAgg3
 z3:=Tryz.sizeOf3
 v3:=Tryz.zeroValue3
 t4:=Tryz.underlying4
 a4:=Tryz.isAgg4
 z4:=Tryz.sizeOf4
 v4:=Tryz.zeroValue4
 t5:=Tryz.underlying5
 a5:=Tryz.isAgg5
 z5:=Tryz.sizeOf5
 v5:=Tryz.zeroValue5
 t9:=Tryz.underlying9
 a9:=Tryz.isAgg9
 z9:=Tryz.sizeOf9
 v9:=Tryz.zeroValue9
 t20:=Tryz.underlying20
 a20:=Tryz.isAgg20
 z20:=Tryz.sizeOf20
 v20:=Tryz.zeroValue20
 t21:=Tryz.underlying21
 a21:=Tryz.isAgg21
 z21:=Tryz.sizeOf21
 v21:=Tryz.zeroValue21
 t37:=Tryz.underlying22
 a37:=Tryz.isAgg22
 z37:=Tryz.sizeOf22
 v37:=Tryz.zeroValue22
 t46:=Tryz.underlying63
 a46:=Tryz.isAgg63
 z46:=Tryz.sizeOf63
 v46:=Tryz.zeroValue63
 t51:=Tryz.underlying91
 a51:=Tryz.isAgg91
 z51:=Tryz.sizeOf91
 v51:=Tryz.zeroValue91
 t53:=Tryz.underlying93
 a53:=Tryz.isAgg93
 z53:=Tryz.sizeOf93
 v53:=Tryz.zeroValue93
 t75:=Tryz.underlying77
 a75:=Tryz.isAgg77
 z75:=Tryz.sizeOf77
 v75:=Tryz.zeroValue77
 t76:=Tryz.underlying78
 a76:=Tryz.isAgg78
 z76:=Tryz.sizeOf78
 v76:=Tryz.zeroValue78
 t85:=Tryz.underlying151
 a85:=Tryz.isAgg151
 z85:=Tryz.sizeOf151
 v85:=Tryz.zeroValue151
 t127:=Tryz.underlying101
 a127:=Tryz.isAgg101
 z127:=Tryz.sizeOf101
 v127:=Tryz.zeroValue101
 t143:=Tryz.underlying167
 a143:=Tryz.isAgg167
 z143:=Tryz.sizeOf167
 v143:=Tryz.zeroValue167
 t145:=Tryz.underlying169
 a145:=Tryz.isAgg169
 z145:=Tryz.sizeOf169
 v145:=Tryz.zeroValue169
 t167:=Tryz.underlying150
 a167:=Tryz.isAgg150
 z167:=Tryz.sizeOf150
 v167:=Tryz.zeroValue150
 t168:=Tryz.underlying153
 a168:=Tryz.isAgg153
 z168:=Tryz.sizeOf153
 v168:=Tryz.zeroValue153
 t171:=Tryz.underlying162
 a171:=Tryz.isAgg162
 z171:=Tryz.sizeOf162
 v171:=Tryz.zeroValue162
 t173:=Tryz.underlying164
 a173:=Tryz.isAgg164
 z173:=Tryz.sizeOf164
 v173:=Tryz.zeroValue164
 t175:=Tryz.underlying157
 a175:=Tryz.isAgg157
 z175:=Tryz.sizeOf157
 v175:=Tryz.zeroValue157
 t210:=Tryz.underlying160
 a210:=Tryz.isAgg160
 z210:=Tryz.sizeOf160
 v210:=Tryz.zeroValue160
 t212:=Tryz.underlying171
 a212:=Tryz.isAgg171
 z212:=Tryz.sizeOf171
 v212:=Tryz.zeroValue171
 t213:=Tryz.underlying172
 a213:=Tryz.isAgg172
 z213:=Tryz.sizeOf172
 t232:=Tryz.underlying174
 a232:=Tryz.isAgg174
 z232:=Tryz.sizeOf174
 v232:=Tryz.zeroValue174
 t233:=Tryz.underlying175
 a233:=Tryz.isAgg175
 z233:=Tryz.sizeOf175
 v233:=Tryz.zeroValue175
 g15:=by kernel_rfl
 g16:=by kernel_rfl
 g17:=by kernel_rfl
 g18:=by kernel_rfl
 g19:=by kernel_rfl
 t80:=Tryz.underlying80
 a80:=Tryz.isAgg80
 z80:=Tryz.sizeOf80
 v80:=Tryz.zeroValue80
 i0:=by kernel_rfl
 i2:=by kernel_rfl
 i3:=by kernel_rfl
 i4:=by kernel_rfl
 i5:=by kernel_rfl
 i9:=by kernel_rfl
 i20:=by kernel_rfl
 i21:=by kernel_rfl
 i37:=by kernel_rfl
 i46:=by kernel_rfl
 i51:=by kernel_rfl
 i53:=by kernel_rfl
 i75:=by kernel_rfl
 i76:=by kernel_rfl
 i80:=by kernel_rfl
 i85:=by kernel_rfl
 i127:=by kernel_rfl
 i143:=by kernel_rfl
 i145:=by kernel_rfl
 i167:=by kernel_rfl
 i168:=by kernel_rfl
 i171:=by kernel_rfl
 i173:=by kernel_rfl
 i175:=by kernel_rfl
 i210:=by kernel_rfl
 i212:=by kernel_rfl
 i232:=by kernel_rfl
 i233:=by kernel_rfl
 m15:=by kernel_rfl
 m16:=by kernel_rfl
 m17:=by kernel_rfl
 m18:=by kernel_rfl
 m19:=by kernel_rfl
 c0:=by kernel_rfl
 c2:=by kernel_rfl
 c3:=by kernel_rfl
 c4:=by kernel_rfl
 c5:=by kernel_rfl
 c9:=by kernel_rfl
 c20:=by kernel_rfl
 c21:=by kernel_rfl
 c37:=by kernel_rfl
 c46:=by kernel_rfl
 c51:=by kernel_rfl
 c53:=by kernel_rfl
 c75:=by kernel_rfl
 c76:=by kernel_rfl
 c80:=by kernel_rfl
 c85:=by kernel_rfl
 c127:=by kernel_rfl
 c143:=by kernel_rfl
 c145:=by kernel_rfl
 c167:=by kernel_rfl
 c168:=by kernel_rfl
 c171:=by kernel_rfl
 c173:=by kernel_rfl
 c175:=by kernel_rfl
 c210:=by kernel_rfl
 c212:=by kernel_rfl
 c213:=by kernel_rfl
 c232:=by kernel_rfl
 c233:=by kernel_rfl }
def layItoa_ren:Go.Shelf.Ren:=⟨fun | 171=>144 | 243=>148 | 246=>154 | 283=>158 | 284=>159 | 285=>160 | 286=>161 | 129=>63 | 317=>164 | 318=>165 | 319=>166 | 320=>167 | 337=>168 | 338=>169 | n=>n,fun | 3=>3 | 9=>9 | 2=>2 | 4=>4 | 171=>162 | 0=>0 | 53=>93 | 37=>22 | 5=>5 | 173=>164 | 212=>171 | 51=>91 | 20=>20 | 213=>172 | 46=>63 | 232=>174 | 233=>175 | n=>n,fun | 17=>5 | 18=>6 | 19=>7 | n=>n⟩
theorem layItoa:Go.Proofs.LaysM.n171 Tryz.prog layItoa_ren:={
 mixed:=by kernel_rfl
 f129:=Tryz.func63.trans (Qg some (by kernel_rfl))
 f171:=Tryz.func144.trans (Qg some (by kernel_rfl))
 f243:=Tryz.func148.trans (Qg some (by kernel_rfl))
 f246:=Tryz.func154.trans (Qg some (by kernel_rfl))
 f283:=Tryz.func158.trans (Qg some (by kernel_rfl))
 f284:=Tryz.func159.trans (Qg some (by kernel_rfl))
 f285:=Tryz.func160.trans (Qg some (by kernel_rfl))
 f286:=Tryz.func161.trans (Qg some (by kernel_rfl))
 f317:=Tryz.func164.trans (Qg some (by kernel_rfl))
 f318:=Tryz.func165.trans (Qg some (by kernel_rfl))
 f319:=Tryz.func166.trans (Qg some (by kernel_rfl))
 f320:=Tryz.func167.trans (Qg some (by kernel_rfl))
 f337:=Tryz.func168.trans (Qg some (by kernel_rfl))
 f338:=Tryz.func169.trans (Qg some (by kernel_rfl))
 t0:=Tryz.underlying0
 a0:=Tryz.isAgg0
 z0:=Tryz.sizeOf0
 v0:=Tryz.zeroValue0
 t2:=Tryz.underlying2
 a2:=Tryz.isAgg2
 z2:=Tryz.sizeOf2
 v2:=Tryz.zeroValue2
 t3:=Tryz.underlying3
 a3:=Tryz.isAgg3
 z3:=Tryz.sizeOf3
 v3:=Tryz.zeroValue3
 t4:=Tryz.underlying4
 a4:=Tryz.isAgg4
 z4:=Tryz.sizeOf4
 v4:=Tryz.zeroValue4
 t5:=Tryz.underlying5
 a5:=Tryz.isAgg5
 z5:=Tryz.sizeOf5
 v5:=Tryz.zeroValue5
 t9:=Tryz.underlying9
 a9:=Tryz.isAgg9
 z9:=Tryz.sizeOf9
 v9:=Tryz.zeroValue9
 t20:=Tryz.underlying20
 a20:=Tryz.isAgg20
 z20:=Tryz.sizeOf20
 v20:=Tryz.zeroValue20
 t37:=Tryz.underlying22
 a37:=Tryz.isAgg22
 z37:=Tryz.sizeOf22
 v37:=Tryz.zeroValue22
 t46:=Tryz.underlying63
 a46:=Tryz.isAgg63
 z46:=Tryz.sizeOf63
 v46:=Tryz.zeroValue63
 t51:=Tryz.underlying91
 a51:=Tryz.isAgg91
 z51:=Tryz.sizeOf91
 v51:=Tryz.zeroValue91
 t53:=Tryz.underlying93
 a53:=Tryz.isAgg93
 z53:=Tryz.sizeOf93
 v53:=Tryz.zeroValue93
 t171:=Tryz.underlying162
 a171:=Tryz.isAgg162
 z171:=Tryz.sizeOf162
 v171:=Tryz.zeroValue162
 t173:=Tryz.underlying164
 a173:=Tryz.isAgg164
 z173:=Tryz.sizeOf164
 v173:=Tryz.zeroValue164
 t212:=Tryz.underlying171
 a212:=Tryz.isAgg171
 z212:=Tryz.sizeOf171
 v212:=Tryz.zeroValue171
 t213:=Tryz.underlying172
 a213:=Tryz.isAgg172
 z213:=Tryz.sizeOf172
 t232:=Tryz.underlying174
 a232:=Tryz.isAgg174
 z232:=Tryz.sizeOf174
 v232:=Tryz.zeroValue174
 t233:=Tryz.underlying175
 a233:=Tryz.isAgg175
 z233:=Tryz.sizeOf175
 v233:=Tryz.zeroValue175
 g17:=by kernel_rfl
 g18:=by kernel_rfl
 g19:=by kernel_rfl
 i0:=by kernel_rfl
 i2:=by kernel_rfl
 i3:=by kernel_rfl
 i4:=by kernel_rfl
 i5:=by kernel_rfl
 i9:=by kernel_rfl
 i20:=by kernel_rfl
 i37:=by kernel_rfl
 i46:=by kernel_rfl
 i51:=by kernel_rfl
 i53:=by kernel_rfl
 i171:=by kernel_rfl
 i173:=by kernel_rfl
 i212:=by kernel_rfl
 i232:=by kernel_rfl
 i233:=by kernel_rfl
 m17:=by kernel_rfl
 m18:=by kernel_rfl
 m19:=by kernel_rfl }
theorem layJoinX:Builder.Extra Tryz.prog layJoin_ren where
 sizeBuilder:=by kernel_rfl
 liesBuilder:=by kernel_rfl
 t5:=Tryz.underlying5
 a5:=Tryz.isAgg5
 z5:=Tryz.sizeOf5
 v5:=Tryz.zeroValue5
 infoByte:=by kernel_rfl
 cellsByte:=by kernel_rfl
 sizeByte:=by kernel_rfl
 neB5:=by decide
end Go.Proofs.YtpeklolpimhioaaGreatDoor
namespace Go.Proofs.YtpeklolpimhioaaGreatDoor
open Go.RowKit
set_option maxRecDepth 100000
set_option linter.unusedVariables false
set_option linter.unusedSimpArgs false
open Go.Shelf
def decN (s:Za):Int:=match Lib.atoiAll s.data.toList with
 | .ok v=>bif decide (0<=v)&&(Lib.itoa v==s.data.toList) then v else -1
 | _=>-1
theorem GP.tab {w:World} (h:GP w):Lib.TabIs Tryz.prog w "internal/strconv.uint64pow10" .u64 Lib.pow10Tab:=by
 obtain ⟨T,fz,h1⟩:=h.2.2 _ (Qv _ (Qu.2 rfl))
 have hg:=layItoa.m17
 unfold Lib.TabIs World.var?
 rw [hg]
 simp only [Option.bind_some]
 exact (Qg (fun o=>match o with | some (Obj.cells cs _ _)=>some cs | _=>none) h1)
theorem GP.err1 {w:World} (h:GP w):∃ e,w.cell? ⟨layAtoi_ren.g 15,0,none⟩=some e/\(e=.nilIface\/∃ te pe,e=.iface te pe):=h.1 _ uu1
theorem GP.err2 {w:World} (h:GP w):∃ e,w.cell? ⟨layAtoi_ren.g 16,0,none⟩=some e/\(e=.nilIface\/∃ te pe,e=.iface te pe):=h.1 _ uu1
theorem tab_keep {w w':World} (h:Lib.TabIs Tryz.prog w "internal/strconv.uint64pow10" .u64 Lib.pow10Tab) (hb:Below w.heap.size w w'):Lib.TabIs Tryz.prog w' "internal/strconv.uint64pow10" .u64 Lib.pow10Tab:=by
 unfold Lib.TabIs World.var? at h ⊢
 rw [layItoa.m17] at h ⊢
 simp only [Option.bind_some] at h ⊢
 have hlt:layItoa_ren.g 17<w.heap.size:=by
  rcases T6 (layItoa_ren.g 17) w.heap.size with h1 | h1
  ·exact h1
  ·rw [Array.getElem?_eq_none h1] at h; cases h
 rw [hb.block _ hlt]
 exact h
set_option maxHeartbeats 1000000 in
theorem dec_fail (s:Za) (w:World) (v0:Int) (R:World->Prop) (hI:Calls Tryz.prog 143 #[.string s] w fun e w'=>(∃ N,e=.returned (.tuple #[.int .i64 v0,.iface (layAtoi_ren.t 168) (.pointer (some ⟨N,0,none⟩))]))/\Below w.heap.size w w') :
  Calls Tryz.prog 134 #[.string s] w fun e w'=>e=.returned (.int .i64 (-1))/\Below w.heap.size w w':=by
 go_enter Tryz.func134,Tryz.ntmps134
 go_wp2_with (go_at_call 143; refine hI.mono ?_; rintro e W1 ⟨⟨N,rfl⟩,hW⟩)
 go_ret
 exact ⟨rfl,hW⟩
set_option maxHeartbeats 1000000 in
theorem dec_neg (s:Za) (w:World) (v:Int) (hv:decide (v<0)=true) (hI:Calls Tryz.prog 143 #[.string s] w fun e w'=>e=.returned (.tuple #[.int .i64 v,.nilIface])/\Below w.heap.size w w') :
  Calls Tryz.prog 134 #[.string s] w fun e w'=>e=.returned (.int .i64 (-1))/\Below w.heap.size w w':=by
 go_enter Tryz.func134,Tryz.ntmps134
 go_wp2_with (go_at_call 143; refine hI.mono ?_; rintro e W1 ⟨rfl,hW⟩)
 go_ret
 exact ⟨rfl,hW⟩
set_option maxHeartbeats 1000000 in
theorem dec_pos (s:Za) (w:World) (v:Int) (hv:decide (v<0)=false) (hv2:v<=9223372036854775807) (ht:Lib.TabIs Tryz.prog w "internal/strconv.uint64pow10" .u64 Lib.pow10Tab)
  (hI:Calls Tryz.prog 143 #[.string s] w fun e w'=>e=.returned (.tuple #[.int .i64 v,.nilIface])/\Below w.heap.size w w') :
  Calls Tryz.prog 134 #[.string s] w fun e w'=>e=.returned (.int .i64 (bif Lib.itoa v==s.data.toList then v else -1))/\Below w.heap.size w w':=by
 have hv0:0<=v:=by simpa using hv
 have hT:∀ W1,Below w.heap.size w W1->Calls Tryz.prog 144 #[.int .i64 v] W1 fun e w'=>e=.returned (.string ⟨(Lib.itoa v).toArray⟩)/\Below W1.heap.size W1 w':=fun W1 hW=>by
  refine (Any.strconv_Itoa layItoa v uu0 hv2 W1 (tab_keep ht hW)).mono ?_
  rintro e w' ⟨rfl,k,os,rfl⟩
  exact ⟨rfl,⟨rfl,rfl,rfl,by simp [Go.Sort.grow],fun b hb=>by simp [Go.Sort.grow,Tg hb]⟩⟩
 have H:=Lib.hid hT
 clear hT
 have key:(bif Lib.itoa v==s.data.toList then v else -1)=(bif (!(Lib.itoa v==s.toList)) then -1 else v):=by
  have e:s.toList=s.data.toList:=byteToList s
  rw [e]
  cases (Lib.itoa v==s.data.toList) <;> rfl
 rw [key]
 clear key
 go_enter Tryz.func134,Tryz.ntmps134
 go_wp2_with (first | (go_at_call 143; refine hI.mono ?_; rintro e W1 ⟨rfl,hW⟩) | (go_at_call 144; refine (H.out _ hW).mono ?_; rintro e W2 ⟨rfl,hW2⟩))
 all_goals
  rename_i hq
  rw [hq]
  go_ret
  exact ⟨rfl,hW.trans (hW2.mono hW.size)⟩
theorem dec_ok (s:Za) (hs:s.size<=281474976710656) (w:World) (hG:GP w) :
  Calls Tryz.prog 134 #[.string s] w fun e w'=>e=.returned (.int .i64 (decN s))/\Below w.heap.size w w':=by
 unfold decN
 cases h:Lib.atoiAll s.data.toList with
 | ok v =>
  obtain ⟨b0,b1⟩:=Lib.atoiAll_bounds h
  have hI:Calls Tryz.prog 143 #[.string s] w fun e w'=>e=.returned (.tuple #[.int .i64 v,.nilIface])/\Below w.heap.size w w':=by
   refine (Any.strconv_Atoi_ok layAtoi s uu0 v h w).mono ?_
   rintro e w' ⟨rfl,hw⟩
   refine ⟨rfl,?_⟩
   rcases hw with rfl | ⟨t,rfl⟩
   ·exact Below.refl _ _
   ·exact Lib.bytesWorld_below _ _ _
  by_cases hv:v<0
  ·have e1:(bif decide (0<=v)&&(Lib.itoa v==s.data.toList) then v else -1)=-1:=by
    rw [Qq uu0]; rfl
   simp only [e1]
   exact dec_neg s w v (Qs hv) hI
  ·have e1:(bif decide (0<=v)&&(Lib.itoa v==s.data.toList) then v else -1)=(bif Lib.itoa v==s.data.toList then v else -1):=by
    rw [Qs uu0,Sy]
   simp only [e1]
   exact dec_pos s w v (Qq hv) uu0 hG.tab hI
 | range =>
  obtain ⟨ev,h1,h2⟩:=hG.err2
  refine dec_fail s w (Lib.atoiSat s.data.toList) (fun _=>True) ((Any.strconv_Atoi_range layAtoi s hs h ev w h1 h2).mono ?_)
  rintro e w' ⟨N,rfl,_,_,hb⟩
  exact ⟨⟨N,rfl⟩,hb⟩
 | _ =>
  obtain ⟨ev,h1,h2⟩:=hG.err1
  refine dec_fail s w 0 (fun _=>True) ((Any.strconv_Atoi_syntax layAtoi s hs h ev w h1 h2).mono ?_)
  rintro e w' ⟨N,rfl,_,_,hb⟩
  exact ⟨⟨N,rfl⟩,hb⟩
theorem decimal_ok (s:Za):Spec.ok Tryz.prog 134 ⟨[.r (.c (.v (.string s)))],.v (.int .i64 (decN s)),s.size<=281474976710656⟩ false:=by
 intro hs S w vs fp hS hG hA
 obtain ⟨u,us,f,g,rfl,⟨⟨rfl,_⟩,rfl⟩,⟨rfl,rfl⟩,rfl,_⟩:=hA
 refine (dec_ok s hs w hG.1).mono fun e w' ⟨h1,h2⟩=>?_
 exact ⟨_,[],[],h1,⟨rfl,rfl,rfl⟩,⟨_,_,[],[],rfl,rfl,rfl,rfl⟩,Q2,fun b hb=>by simp at hb,⟨h2.os,h2.tape,h2.output,h2.size,fun k hk _=>h2.block k hk,Rj _⟩⟩
end Go.Proofs.YtpeklolpimhioaaGreatDoor
namespace Go.Proofs.YtpeklolpimhioaaGreatDoor
theorem uu2{a:Prop}(h:a:=by kernel_rfl):a:=h
theorem uu3{a:Prop}(h:a:=by first | omega | (simp only [lens,ib] at*<;> omega)):a:=h
theorem uu4{a:Prop}(h:a:=by (have hz:=specwords_sz line; have hz0:=hz (Int.toNat 0); have hz1:=hz (Int.toNat 1); have hz2:=hz (Int.toNat 2); have hs:Zb.size=1:=rfl; (try simp only [size_app] at *); omega)):a:=h
theorem uu5{a:Prop}(h:a:=by first | omega | assumption | decide | exact cq_lq (Gs (by assumption)) | exact Gs (by assumption) | exact cq_sz (Gs (by assumption)) | exact szLe (lit_le _) (by decide) | (have h9:=cq_len (Gs (by assumption)); omega) | exact cq_lq cq_base):a:=h
theorem uu6{a:Prop}(h:a:=by first | omega | assumption):a:=h
theorem uu7{a:Prop}(h:a:=by refine ⟨?_,?_⟩ <;> omega):a:=h
theorem uu8{a:Prop}(h:a:=by (omega)):a:=h
theorem uu9{a:Prop}(h:a:=by exact hpre0 _):a:=h
theorem uu10{a:Prop}(h:a:=by (exact kix0 _ (by assumption))):a:=h
theorem uu11{a:Prop}(h:a:=by first | omega | exact cq_sz hpre0 | exact key_lt _ _ | assumption | (have h9:=cq_len hpre0; omega)):a:=h
theorem uu12{a:Prop}(h:a:=by (have h0:0<=(bif (!((lines.length:Int)==0)) then (F11 ⟨r1.b,r1.p⟩ 5).2 else r1.p)/\(bif (!((lines.length:Int)==0)) then (F11 ⟨r1.b,r1.p⟩ 5).2 else r1.p)<=r1.p+1:=(by (cases ((lines.length:Int)==0) <;> simp only [Sa,Sx,Qc,Qh] <;> omega)); omega)):a:=h
theorem uu13{a:Prop}(h:a:=by first | omega | assumption | exact of_sz _ _ (by assumption) | exact one_sz (of_sz _ _ (by assumption)) (of_sz _ _ (by assumption)) | (have h1:=neat3_len (by assumption); omega) | (obtain ⟨h1,h2,h3⟩:=neat3_len (by assumption); simp only [Rw] at *; omega)):a:=h
theorem uu14{a:Prop}(h:a:=by (exact kix1 _ (by assumption))):a:=h
theorem uu15{a:Prop}(h:a:=by first | omega | decide):a:=h
theorem uu16{a:Prop}(h:a:=by (try simp only [lens]); omega):a:=h
theorem uu18{a:Prop}(h:a:=by simp):a:=h
theorem uu19{a:Prop}(h:a:=by exact pick_lt _ _ _ (by omega) (by omega) (by omega)):a:=h
theorem uu20{a:Prop}(h:a:=by simp only [pick_p]; omega):a:=h
theorem uu21{a:Prop}(h:a:=by exact at_sz all (by assumption) _ _):a:=h
theorem uu22{a:Prop}(h:a:=by exact lq_sz (by assumption)):a:=h
theorem uu23{a:Prop}(h:a:=by rw [h]; rfl):a:=h
theorem uu24{a:Prop}(h:a:=by (simp only [lens,ib] at*<;> omega)):a:=h
theorem uu25{a:Prop}(h:a:=by (exact kix_rule _ (by assumption) (by assumption))):a:=h
theorem uu26{a:Prop}(h:a:=by (exact kix_door _ (by assumption) (by assumption))):a:=h
theorem uu27{a:Prop}(h:a:=by refine ⟨?_,?_,?_⟩ <;> omega):a:=h
theorem uu28{a:Prop}(h:a:=by refine ⟨?_,?_,?_,?_,?_⟩ <;> omega):a:=h
theorem uu29{a:Prop}(h:a:=by (have h9:=lq_len (by assumption:LQ out); omega)):a:=h
theorem uu30{a:Prop}(h:a:=by first | assumption | exact hpre3 _ | exact fun k _=>hpre3 k | exact hpre4 _ | exact fun k _=>hpre4 k | exact hpre5 _ | exact fun k _=>hpre5 k | (intros; exact trivial) | (intros; exact Rj _)):a:=h
theorem uu31{a:Prop}(h:a:=by exact merge_len _ _ _):a:=h
theorem uu32{a:Prop}(h:a:=by exact merge_sz _ _ _):a:=h
theorem uu33{a:Prop}(h:a:=by simp only [Q4]; omega):a:=h
theorem uu34{a:Prop}(h:a:=by refine ⟨?_,?_⟩ <;> first | omega | (simp only [lens,ib] at*<;> omega)):a:=h
theorem uu35{a:Prop}(h:a:=by simp only [F18_s0,geD,Qh]):a:=h
theorem uu36{a:Prop}(h:a:=by exact key_lt _ _):a:=h
theorem uu37{a:Prop}(h:a:=by (have h9:=lq_len (by assumption:LQ lines); omega)):a:=h
theorem uu38{a:Prop}(h:a:=by first | exact mgJ_0 _ _ _ _ | exact mgJ_goT (by assumption) (by assumption) (by assumption) | exact mgJ_goF (by assumption) (by assumption) (by assumption) | exact mgS_lt (by assumption)):a:=h
theorem uu39{a:Prop}(h:a:=by refine ⟨?_,?_,?_⟩ <;> first | omega | (simp only [lens,ib] at*<;> omega)):a:=h
theorem uu40{a:Prop}(h:a:=by first | exact cutS_sz _ _ (by omega) _ | omega):a:=h
theorem uu41{a:Prop}(h:a:=by exact cutS_sz _ _ (by omega) _):a:=h
theorem uu42{a:Prop}(h:a:=by refine ⟨?_,?_,?_,?_⟩ <;> omega):a:=h
theorem uu43{a:Prop}(h:a:=by exact szLe (lit_le _) (by decide)):a:=h
theorem uu44{a:Prop}(h:a:=by first | assumption | exact hpre1 _ | exact fun k _=>hpre1 k | (intros; exact trivial) | (intros; exact Rj _)):a:=h
theorem uu45{a:Prop}(h:a:=by refine ⟨?_,?_,?_,?_⟩ <;> first | omega | (simp only [lens,ib] at*<;> omega)):a:=h
theorem uu46{a:Prop}(h:a:=by simp only [Q6,Q4,Rw]; omega):a:=h
theorem uu47{a:Prop}(h:a:=by have hz:=(by assumption:∀ k:Nat,(list.getD k default).size<=1048576) i40.toNat; (try simp only [size_app,sz0] at *); omega):a:=h
theorem uu48{a:Prop}(h:a:=by first | assumption | omega | decide):a:=h
theorem uu49{a:Prop}(h:a:=by first | assumption | exact hpre0 _ | exact fun k _=>hpre0 k | (intros; exact trivial) | (intros; exact Rj _)):a:=h
theorem uu50{a:Prop}(h:a:=by simp only [F18_s2,geD,Qh]):a:=h
theorem uu51{a:Prop}(h:a:=by refine ⟨?_,?_⟩ <;> (simp only [lens,ib] at*<;> omega)):a:=h
theorem uu52{a:Prop}(h:a:=by exact cuts_sz lines (by assumption)):a:=h
theorem uu53{a:Prop}(h:a:=by simp only [F18_s1,geD,Qh]):a:=h
theorem uu54{a:Prop}(h:a:=by refine ⟨?_,?_,?_⟩ <;> first | omega | (simp only [lens,ib] at*<;> omega) | omega | (simp only [Gz,Gk,Sb,Qn,Tp,Gl,Rc,Tt,Sp,Qx,Q6,Q4,Rw] at *; omega)):a:=h
theorem uu55{a:Prop}(h:a:=by first | omega | exact tmod_ix (by omega) (by omega) | exact tmod_ix (wrap73 (by omega) (by omega)) (by omega)):a:=h
theorem uu56{a:Prop}(h:a:=by refine ⟨?_,?_,?_,?_,?_⟩ <;> first | omega | (simp only [lens,ib] at*<;> omega) | omega | assumption | exact without_lq (by assumption) (by omega) (by omega) | exact without_lq (by assumption) (by omega) (key_lt _ _) | exact put_lq (by assumption) (by omega) (by omega) | exact cq_lq (Gs (by assumption)) | exact Gs (by assumption)):a:=h
theorem uu57{a:Prop}(h:a:=by (first | ((try simp only [lens]); omega) | (have h9:=mgJ_len (by assumption:MgJ _ _ _ _ left' out1); simp only [lens,Sc] at *; omega))):a:=h
theorem uu58{a:Prop}(h:a:=by refine ⟨?_,?_,?_,?_,?_,?_⟩ <;> first | omega | (simp only [lens,ib] at*<;> omega) | (intro k hk hk2; first | exact (by assumption:∀ k:Nat,k<s.length->Qdel (s.getD k default)) k hk2 | exact (by assumption:∀ k:Nat,j1<=(k:Int)->k<xs.length->Qdel (xs.getD k default)) k (by first | omega | (simp only [lens,ib] at*<;> omega)) hk2 | (rw [getD_set_ne _ _ _ _ (by first | omega | (simp only [lens,ib] at*<;> omega))]; exact (by assumption:∀ k:Nat,j1<=(k:Int)->k<xs.length->Qdel (xs.getD k default)) k (by first | omega | (simp only [lens,ib] at*<;> omega)) (by simpa using hk2)))):a:=h
theorem uu59{a:Prop}(h:a:=by refine ⟨?_,?_,?_,?_,?_,?_,?_⟩ <;> first | omega | (simp only [lens,ib] at*<;> omega)):a:=h
theorem uu60{a:Prop}(h:a:=by (rcases Sg ((w1.length:Int)=3) with h3 | h3; omega; (rcases Sg ((w1.length:Int)=5) with h5 | h5; omega; (have e3:((w1.length:Int)==3)=false:=Qx.2 h3; have e5:((w1.length:Int)==5)=false:=Qx.2 h5; simp [e3,e5] at *)))):a:=h
theorem uu61{a:Prop}(h:a:=by refine ⟨?_,?_,?_⟩ <;> (have hz:=(by assumption:∀ k:Nat,(list.getD k default).size<=1048576) i40.toNat; (try simp only [size_app,sz0] at *); omega)):a:=h
theorem uu62{a:Prop}(h:a:=by first | assumption | exact gv2 | (intros; exact trivial) | (intros; exact Rj _)):a:=h
theorem uu63{a:Prop}(h:a:=by first | omega | exact join_small _ _ (by assumption) (by omega) (by decide)):a:=h
theorem uu64{a:Prop}(h:a:=by first | omega | exact hpre1 _ | (intros; exact trivial) | (intros; exact Rj _)):a:=h
theorem uu65{a:Prop}(h:a:=by first | omega | exact hpre0 _ | (intros; exact trivial) | (intros; exact Rj _)):a:=h
theorem uu66{a:Prop}(h:a:=by first | omega | assumption | (have h9:=neat_len lines (by omega); omega)):a:=h
theorem uu67{a:Prop}(h:a:=by refine ⟨?_,?_,?_⟩ <;> first | omega | (simp only [lens,ib] at*<;> omega) | (apply szLe; (· repeat (first | (exact (by assumption:tail.size<=100)) | apply app_le | exact of_le (n:=80) _ _ (by decide) | exact prefix_le _ | exact addr_le _ | exact lit_le _)); decide)):a:=h
theorem uu68{a:Prop}(h:a:=by exact szLe (app_le (lit_le _) (of_le (n:=80) _ _ (by decide))) (by decide)):a:=h
theorem uu69{a:Prop}(h:a:=by refine ⟨?_,?_⟩ <;> first | exact trivial | omega | (simp only [lens,ib] at*<;> omega) | omega | assumption | exact without_lq (by assumption) (by omega) (by omega) | exact without_lq (by assumption) (by omega) (key_lt _ _) | exact put_lq (by assumption) (by omega) (by omega) | exact cq_lq (Gs (by assumption)) | exact Gs (by assumption)):a:=h
theorem uu70{a:Prop}(h:a:=by exact fun q=>Q0 ((by assumption:∀ q:Nat,(out.getD q default).size<=1000) q) (by decide)):a:=h
theorem uu71{a:Prop}(h:a:=by exact pick_lt _ _ _ (by (cases hq:((lines.length:Int)==0) <;> simp only [hq,Sa,Sx,Qc,Qh] at*<;> omega)) (by (cases hq:((lines.length:Int)==0) <;> simp only [hq,Sa,Sx,Qc,Qh] at*<;> omega)) (by omega)):a:=h
theorem uu72{a:Prop}(h:a:=by refine ⟨?_,?_⟩ <;> first | exact trivial | omega | (simp only [lens,ib] at*<;> omega) | (simp only [Q6] at *; omega) | (have h9:=mgJ_len (by assumption:MgJ _ _ _ _ left' out1); simp only [Sc] at *; omega)):a:=h
theorem uu73{a:Prop}(h:a:=by first | exact mgS_1 (by assumption) (by assumption) (by assumption) | exact mgS_2 (by assumption) (by assumption) (by assumption) (by assumption)):a:=h
theorem uu74{a:Prop}(h:a:=by first | omega | exact hpre2 _ | (intros; exact trivial) | (intros; exact Rj _)):a:=h
theorem uu75{a:Prop}(h:a:=by refine ⟨?_,?_,?_,?_⟩ <;> first | omega | (simp only [lens,ib] at*<;> omega) | exact sz_nil | assumption | exact put_szN (by assumption) (one_sz (of_sz _ _ (by assumption)) (of_sz _ _ (by assumption))) | (simp only [put_len] at *; omega)):a:=h
theorem ai {a b:Prop} (h:a) (k:b):a/\b:=⟨h,k⟩
theorem ir {d:Dat}:Imp d d := Imp.refl d
abbrev vI (x:Int):Value:=.int .i64 x
open Go.RowKit
set_option maxRecDepth 100000
set_option linter.unusedVariables false
set_option linter.unusedSimpArgs false
theorem mixed:Tryz.prog.follows .mixedOrders=true:=Checked.mixed Tryz.checked
def F96 (s:Za) (sep:Za):Za×Za×Bool :=
 cut3 s sep
def S96 (s:Za) (sep:Za):Spec:=⟨[.r (.c (.v (.string s))),.r (.c (.v (.string sep)))],.tu [.v (.string (F96 s sep).1),.v (.string (F96 s sep).2.1),.v (.bool (F96 s sep).2.2)],s.size<=4294967280⟩
theorem ok96 (s:Za) (sep:Za):(S96 s sep).ok Tryz.prog 96 :=
 cut_ok layCut uu1 s sep
theorem g96_0 (s:Za) (sep:Za):(F96 s sep).1.size<=(s.size:Int):=by
 exact cut3_le1 s sep
theorem g96_1 (s:Za) (sep:Za):(F96 s sep).2.1.size<=(s.size:Int):=by
 exact cut3_le2 s sep
def F134 (text:Za):Int :=
 decN text
def S134 (text:Za):Spec:=⟨[.r (.c (.v (.string text)))],.v (vI (F134 text)),text.size<=281474976710656⟩
theorem ok134 (text:Za):(S134 text).ok Tryz.prog 134 false :=
 decimal_ok text
def F97 (n:Int) (low:Int) (high:Int):Bool :=
 (bif decide (low<=n) then decide (n<=high) else false)
def S97 (R:Bool) (n:Int) (low:Int) (high:Int):Spec:=⟨[.r (.c (.v (vI n))),.r (.c (.v (vI low))),.r (.c (.v (vI high)))],.v (.bool R),True⟩
theorem ok97 (n:Int) (low:Int) (high:Int):(S97 (F97 n low high) n low high).ok Tryz.prog 97 :=
 fnG_ok mixed (fn:=Tryz.f97) (ct:=.seq .no (.seq .no .no)) Tryz.func97 (fun (_:True)=>fiB (bif decide (low<=n) then decide (n<=high) else false) (F97 n low high) rfl) uu2
theorem as97 (n:Int) (low:Int) (high:Int):F97 n low high=(decide (low<=n/\n<=high)):=by
 simp only [F97,Bool.decide_and,bandd]
theorem oa97 (n:Int) (low:Int) (high:Int):(S97 (decide (low<=n/\n<=high)) n low high).ok Tryz.prog 97:=by
 intro hp; have h:=ok97 n low high hp; rw [as97 n low high] at h; exact h
theorem kc96 (s:Za) (sep:Za) {K_:Prop} (p0_:s.size<=4294967280) (k_:((F96 s sep).1.size<=(s.size:Int))->((F96 s sep).2.1.size<=(s.size:Int))->K_):(s.size<=4294967280)/\(Imp (.v (.string s)) (.v (.string s)))/\(Imp (.v (.string sep)) (.v (.string sep)))/\K_:=⟨p0_,Imp.refl _,Imp.refl _,k_ (g96_0 s sep) (g96_1 s sep)⟩
theorem kc134 (text:Za) {K_:Prop} (p0_:text.size<=281474976710656) (k_:K_):(text.size<=281474976710656)/\(Imp (.v (.string text)) (.v (.string text)))/\K_:=⟨p0_,Imp.refl _,k_⟩
abbrev kh96f (s:Za) (sep:Za):Hint false Tryz.prog:=.call 96 (S96 s sep) ((ok96 s sep).to false) none
abbrev kh134 (text:Za):Hint false Tryz.prog:=.call 134 (S134 text) (ok134 text) none
theorem kc97a (n:Int) (low:Int) (high:Int) {K_:Prop} (k_:K_):(True)/\(Imp (.v (vI n)) (.v (vI n)))/\(Imp (.v (vI low)) (.v (vI low)))/\(Imp (.v (vI high)) (.v (vI high)))/\K_:=⟨trivial,Imp.refl _,Imp.refl _,Imp.refl _,k_⟩
theorem kg97a {K_:Prop} (c_ b_:Bool) (n:Int) (low:Int) (high:Int) (k_:K_):(c_=b_->True)/\(c_=b_->Imp (.v (vI n)) (.v (vI n)))/\(c_=b_->Imp (.v (vI low)) (.v (vI low)))/\(c_=b_->Imp (.v (vI high)) (.v (vI high)))/\K_:=⟨fun _=>trivial,fun _=>Imp.refl _,fun _=>Imp.refl _,fun _=>Imp.refl _,k_⟩
abbrev kh97af (n:Int) (low:Int) (high:Int):Hint false Tryz.prog:=.call 97 (S97 (decide (low<=n/\n<=high)) n low high) ((oa97 n low high).to false) none
abbrev w0_:Za:=⟨#[46]⟩
def F111 (text:Za):Int :=
 bif (bif (bif (!(F96 text ⟨#[46]⟩).2.2) then true else (!(decide (0<=(F134 (F96 text ⟨#[46]⟩).1)/\(F134 (F96 text ⟨#[46]⟩).1)<=255)))) then true else (!(decide (0<=(F134 (F96 text ⟨#[46]⟩).2.1)/\(F134 (F96 text ⟨#[46]⟩).2.1)<=255)))) then (-1) else (IntKind.i64.wrap ((IntKind.i64.wrap (256*(F134 (F96 text ⟨#[46]⟩).1)))+(F134 (F96 text ⟨#[46]⟩).2.1)))
def S111 (text:Za):Spec:=⟨[.r (.c (.v (.string text)))],.v (vI (F111 text)),text.size<=1048576⟩
theorem ok111 (text:Za):(S111 text).ok Tryz.prog 111 false :=
 fnG_ok mixed (fn:=Tryz.f111) (ct:=.seq .no (.seq (.reg [(1,kh96f text w0_)]) (.seq (.reg [(1,kh134 (F96 text w0_).1),(3,kh134 (F96 text w0_).2.1)]) (.seq (.seq (.reg [(4,kh97af (F134 (F96 text w0_).1) 0 255),(9,kh97af (F134 (F96 text w0_).2.1) 0 255)]) (.cond (.seq .no .no) .no)) (.seq .no .no))))) Tryz.func111 (fun (hpre0:text.size<=1048576)=>kc96 text w0_ uu0 (fun gv1 gv2=>kc134 (F96 text w0_).1 uu0 (kc134 (F96 text w0_).2.1 uu0 (kg97a (!(F96 text w0_).2.2) false (F134 (F96 text w0_).1) 0 255 (kg97a (bif (!(F96 text w0_).2.2) then true else (!(decide (0<=(F134 (F96 text w0_).1)/\(F134 (F96 text w0_).1)<=255)))) false (F134 (F96 text w0_).2.1) 0 255 (ifb (bif (bif (!(F96 text w0_).2.2) then true else (!(decide (0<=(F134 (F96 text w0_).1)/\(F134 (F96 text w0_).1)<=255)))) then true else (!(decide (0<=(F134 (F96 text w0_).2.1)/\(F134 (F96 text w0_).2.1)<=255)))) (fun h5=>fiI (-1) (F111 text) (condT h5 rfl)) (fun h5=>have _:(F96 text w0_).2.2=true:=(notEF (orF1 (orF1 h5))); have _:0<=(F134 (F96 text w0_).1)/\(F134 (F96 text w0_).1)<=255:=Qb (notEF (orF2 (orF1 h5))); have _:0<=(F134 (F96 text w0_).2.1)/\(F134 (F96 text w0_).2.1)<=255:=Qb (notEF (orF2 h5)); fiI (IntKind.i64.wrap ((IntKind.i64.wrap (256*(F134 (F96 text w0_).1)))+(F134 (F96 text w0_).2.1))) (F111 text) (condF h5 rfl)))))))) uu2
structure NetPrefix where
 Addr:Int
 Len:Int
 deriving DecidableEq,Inhabited
def eNetPrefix (x:NetPrefix):List Dat:=[.v (vI x.Addr),.v (vI x.Len)]
def F145 (p:NetPrefix):Int :=
 (IntKind.i64.wrap (1*2 ^ (min (16-p.Len).toNat IntKind.i64.bits)))
def S145 (p:NetPrefix):Spec:=⟨[.r (.g (eNetPrefix p))],.v (vI (F145 p)),0<=p.Len/\p.Len<=16⟩
theorem ok145 (p:NetPrefix):(S145 p).ok Tryz.prog 145 :=
 fnG_ok mixed (fn:=Tryz.f145) (ct:=.seq .no (.seq (.reg [(2,.bnd)]) .no)) Tryz.func145 (fun (hp:0<=p.Len/\p.Len<=16)=>have hpre0:=hp.1; have hpre1:=hp.2; ai (iok (16-p.Len) uu0) (ai (uu0:0<=(16-p.Len)) (fiI (IntKind.i64.wrap (1*2 ^ (min (16-p.Len).toNat IntKind.i64.bits))) (F145 p) rfl))) uu2
theorem g145_0 (p:NetPrefix):0<=p.Len->p.Len<=16->1<=(F145 p)/\(F145 p)<=65536:=by
 obtain ⟨a,l⟩:=p; intro h1 h2; simp only at h1 h2; have h3:l=0\/l=1\/l=2\/l=3\/l=4\/l=5\/l=6\/l=7\/l=8\/l=9\/l=10\/l=11\/l=12\/l=13\/l=14\/l=15\/l=16:=by omega
 rcases h3 with rfl | rfl | rfl | rfl | rfl | rfl | rfl | rfl | rfl | rfl | rfl | rfl | rfl | rfl | rfl | rfl | rfl <;> exact Qb rfl
abbrev kh97a (n:Int) (low:Int) (high:Int):Hint true Tryz.prog:=.call 97 (S97 (decide (low<=n/\n<=high)) n low high) (oa97 n low high) none
theorem kg145 {K_:Prop} (c_ b_:Bool) (p:NetPrefix) (p_:c_=b_->0<=p.Len/\p.Len<=16) (k_:K_):(c_=b_->0<=p.Len/\p.Len<=16)/\(c_=b_->Imps (eNetPrefix p) (eNetPrefix p))/\K_:=⟨p_,fun _=>Imps.refl _,k_⟩
abbrev kh145 (p:NetPrefix):Hint true Tryz.prog:=.call 145 (S145 p) (ok145 p) none
def F135 (p:NetPrefix):Bool :=
 (bif (bif (decide (0<=p.Len/\p.Len<=16)) then (decide (0<=p.Addr/\p.Addr<=65535)) else false) then ((p.Addr.tmod (F145 p))==0) else false)
def S135 (p:NetPrefix):Spec:=⟨[.r (.g (eNetPrefix p))],.v (.bool (F135 p)),True⟩
theorem ok135 (p:NetPrefix):(S135 p).ok Tryz.prog 135 :=
 fnG_ok mixed (fn:=Tryz.f135) (ct:=.seq .no (.seq (.reg [(2,kh97a p.Len 0 16),(6,kh97a p.Addr 0 65535),(12,kh145 p)]) .no)) Tryz.func135 (fun (_:True)=>kc97a p.Len 0 16 (kg97a (decide (0<=p.Len/\p.Len<=16)) true p.Addr 0 65535 (kg145 (bif (decide (0<=p.Len/\p.Len<=16)) then (decide (0<=p.Addr/\p.Addr<=65535)) else false) true p (fun k4=>have _:=Qb (andT1 k4); have _:=Qb (andT2 k4); ⟨uu0,uu0⟩) (ai (fun k5:(bif (decide (0<=p.Len/\p.Len<=16)) then (decide (0<=p.Addr/\p.Addr<=65535)) else false)=true=>have _:=Qb (andT1 k5); have _:=Qb (andT2 k5); (by have h9:=g145_0 p (by omega) (by omega); omega:¬ (F145 p)=0)) (fiB (bif (bif (decide (0<=p.Len/\p.Len<=16)) then (decide (0<=p.Addr/\p.Addr<=65535)) else false) then ((p.Addr.tmod (F145 p))==0) else false) (F135 p) rfl))))) uu2
theorem kc111 (text:Za) {K_:Prop} (p0_:text.size<=1048576) (k_:K_):(text.size<=1048576)/\(Imp (.v (.string text)) (.v (.string text)))/\K_:=⟨p0_,Imp.refl _,k_⟩
abbrev kh111 (text:Za):Hint false Tryz.prog:=.call 111 (S111 text) (ok111 text) none
abbrev w1_:Za:=⟨#[47]⟩
def F108 (text:Za):NetPrefix×Bool :=
 bif (bif (!(F96 text ⟨#[47]⟩).2.2) then true else (!(F135 ⟨(F111 (F96 text ⟨#[47]⟩).1),(F134 (F96 text ⟨#[47]⟩).2.1)⟩))) then ((⟨0,0⟩:NetPrefix),false) else ((⟨(F111 (F96 text ⟨#[47]⟩).1),(F134 (F96 text ⟨#[47]⟩).2.1)⟩:NetPrefix),true)
theorem fi108 (text:Za) (r:NetPrefix×Bool) (hF:r=(F108 text)):((.int .i64 r.1.Addr:Value)=.int .i64 (F108 text).1.Addr)/\((.int .i64 r.1.Len:Value)=.int .i64 (F108 text).1.Len)/\((.bool r.2:Value)=.bool (F108 text).2)/\True:=by cases hF; exact ⟨rfl,rfl,rfl,trivial⟩
def S108 (text:Za):Spec:=⟨[.r (.c (.v (.string text)))],.tu [.ag [.v (vI (F108 text).1.Addr),.v (vI (F108 text).1.Len)],.v (.bool (F108 text).2)],text.size<=1048576⟩
theorem ok108 (text:Za):(S108 text).ok Tryz.prog 108 false :=
 fnG_ok mixed (fn:=Tryz.f108) (ct:=.seq .no (.seq (.reg [(1,kh96f text w1_)]) (.seq (.reg [(1,kh111 (F96 text w1_).1),(3,kh134 (F96 text w1_).2.1)]) (.seq (.seq (.reg [(4,.call 135 (S135 (⟨(F111 (F96 text w1_).1),(F134 (F96 text w1_).2.1)⟩:NetPrefix)) ((ok135 (⟨(F111 (F96 text w1_).1),(F134 (F96 text w1_).2.1)⟩:NetPrefix)).to false) none)]) (.cond (.seq .no .no) .no)) (.seq .no .no))))) Tryz.func108 (fun (hpre0:text.size<=1048576)=>kc96 text w1_ uu0 (fun gv1 gv2=>kc111 (F96 text w1_).1 uu0 (kc134 (F96 text w1_).2.1 uu0 (ai (fun k3:(!(F96 text w1_).2.2)=false=>have _:(F96 text w1_).2.2=true:=(notEF k3); trivial) (ai (fun k4:(!(F96 text w1_).2.2)=false=>have _:(F96 text w1_).2.2=true:=(notEF k4); (Imps.refl (eNetPrefix (⟨(F111 (F96 text w1_).1),(F134 (F96 text w1_).2.1)⟩:NetPrefix)))) (ifb (bif (!(F96 text w1_).2.2) then true else (!(F135 ⟨(F111 (F96 text w1_).1),(F134 (F96 text w1_).2.1)⟩))) (fun h5=>fi108 text ((⟨0,0⟩:NetPrefix),false) (condT h5 rfl)) (fun h5=>have _:(F96 text w1_).2.2=true:=(notEF (orF1 h5)); fi108 text ((⟨(F111 (F96 text w1_).1),(F134 (F96 text w1_).2.1)⟩:NetPrefix),true) (condF h5 rfl)))))))) uu2
def F32 (s:Za) (sep:Za):List Za :=
 splitS s sep
def S32 (s:Za) (sep:Za):Spec:=⟨[.r (.c (.v (.string s))),.r (.c (.v (.string sep)))],.ow (.l 1 eStr (F32 s sep)),s.size<=4294967280/\1<=sep.size⟩
theorem ok32 (s:Za) (sep:Za):(S32 s sep).ok Tryz.prog 32 :=
 split_ok laySplit uu2 uu1 s sep
def F136_s0 (s:List Za) (v1:Za):Int->Lp Int Int:=fun v8 =>
 bif (decide (v8<(s.length:Int))) then (bif (v1.toList==(s.getD v8.toNat default).toList) then (.ret v8) else (.next (v8+1))) else (.done v8)
def F136 (s:List Za) (v1:Za):Int :=
 (runL (F136_s0 s v1) (((s.length:Int)-0).toNat+1) 0).fin (fun r=>r) (fun v8=>(-1))
abbrev lN136_0 (s:List Za):Nat×Int:=((((s.length:Int)-0).toNat+1),0)
abbrev lI136_0 (s:List Za) (m39:Nat) (v8:Int):Prop:=Int.toNat ((s.length:Int)-v8)<m39/\(0:Int)<=v8
abbrev lX136_0 (s:List Za) (v1:Za):Lp Int Int:=LpX (F136_s0 s v1) (lN136_0 s)
abbrev lJ136_0 (s:List Za) (v1:Za) (i:Nat×Int):Prop:=LpJ (F136_s0 s v1) (lN136_0 s) i (lI136_0 s i.1 i.2)
abbrev lH136_0 (s:List Za) (v1:Za) (i:Nat×Int) (m39:Nat) (v8:Int):Prop:=LpH (F136_s0 s v1) (lN136_0 s) i m39 v8 (lI136_0 s (m39+1) v8)
abbrev lE136_0 (s:List Za) (v1:Za) (v8:Int) (v8_:Int) (K39:Prop):Prop:=(Rf (.string v1))/\(Rf (.int .i64 (s.length:Int)))/\((.int .i64 v8:Value)=.int .i64 v8_)/\(Im (.l 1 eStr s))/\K39
theorem un136_0 (s:List Za) (v1:Za) (i:Nat×Int) (h:lJ136_0 s v1 i):lH136_0 s v1 i (i.1-1) i.2:=⟨hd1 h.1 h.2.1,hd3 h.2.1,hd2 h.2.1,h.2.2⟩
theorem bk136_0 (s:List Za) (v1:Za) (i:Nat×Int) (m39:Nat) (v8:Int) (hl:m39<i.1) (e:runL (F136_s0 s v1) m39 v8=lX136_0 s v1) (h:lI136_0 s m39 v8):∃ j:Nat×Int,lE136_0 s v1 v8 j.2 (lJ136_0 s v1 j/\j.1<i.1):=⟨(m39,v8),rfl,rfl,rfl,Imp.refl _,⟨e,h⟩,hl⟩
theorem en136_0 (s:List Za) (v1:Za) (h:(0:Int)<=0):lE136_0 s v1 0 0 (lJ136_0 s v1 (lN136_0 s)):=⟨rfl,rfl,rfl,Imp.refl _,rfl,Qt _,h⟩
def S136 (s:List Za) (v1:Za):Spec:=⟨[.r (.c (.l 1 eStr s)),.r (.c (.v (.string v1)))],.v (vI (F136 s v1)),True⟩
theorem ok136 (s:List Za) (v1:Za):(S136 s v1).ok Tryz.prog 136 :=
 fnG_ok mixed (fn:=Tryz.f136) (ct:=.seqk [(0,0)] .no (.seq (.seqk [(0,0)] .no (.blk (.loop (ι:=Nat×Int) (fun i=>(fun (v8:Int)=>(⟨[(0,some (.h 0 0)),(1,some (.v (.string v1))),(7,some (.v (vI (s.length:Int)))),(8,some (.v (vI v8)))],[(0,some (.shr none (.l 1 eStr s)))],1⟩:St)) i.2) (lJ136_0 s v1) (fun i=>i.1) (lN136_0 s) (fun i=>(fun (v8:Int)=>(.seq .no (.seq (.cond .no .no) (.seq (.blk (.seq .no (.seq .no (.cond (.seq .no .no) .no)))) (.reg [(0,.bnd)]))))) i.2)))) (.seq .no .no))) Tryz.func136 (fun (_:True)=>kn s fun _=>kn s fun _=>ai (en136_0 s v1 uu0) (fun (i0:Nat×Int) (hi0:lJ136_0 s v1 i0)=>(fun (m0:Nat) (v8:Int) (hh0:lH136_0 s v1 i0 m0 v8)=>have hI0:=hh0.1; have hl0:=hh0.2.1; have _:=hh0.2.2.1; have _:=hh0.2.2.2; ifd (v8<(s.length:Int)) (fun h2 _=>ai (uu0:ib v8 s) (ifb (v1.toList==(s.getD v8.toNat default).toList) (fun h3=>fiI v8 (F136 s v1) (finR (runL_ret hI0 (condT h2 (condT h3 rfl))) rfl)) (fun h3=>ai (iok (v8+1) uu0) (bk136_0 s v1 i0 m0 (v8+1) hl0 (runL_next hI0 (condT h2 (condF h3 rfl))) uu7)))) (fun h2 _=>have hD0_4:lX136_0 s v1=Lp.done v8:=runL_done hI0 (condF h2 rfl); fiI (-1) (F136 s v1) (finD hD0_4 rfl))) (i0.1-1) i0.2 (un136_0 s v1 i0 hi0))) uu2
theorem kc136 (s:List Za) (v1:Za) {K_:Prop} (k_:K_):(True)/\(Imp (.l 1 eStr s) (.l 1 eStr s))/\(Imp (.v (.string v1)) (.v (.string v1)))/\K_:=⟨trivial,Imp.refl _,Imp.refl _,k_⟩
abbrev kh136 (s:List Za) (v1:Za):Hint true Tryz.prog:=.call 136 (S136 s v1) (ok136 s v1) none
def F110 (s:List Za) (v1:Za):Bool :=
 decide ((F136 s v1)>=0)
def S110 (s:List Za) (v1:Za):Spec:=⟨[.r (.c (.l 1 eStr s)),.r (.c (.v (.string v1)))],.v (.bool (F110 s v1)),True⟩
theorem ok110 (s:List Za) (v1:Za):(S110 s v1).ok Tryz.prog 110 :=
 fnG_ok mixed (fn:=Tryz.f110) (ct:=.seqk [(0,0)] .no (.seq (.reg [(2,kh136 s v1)]) .no)) Tryz.func110 (fun (_:True)=>kn s fun _=>kc136 s v1 (fiB (decide ((F136 s v1)>=0)) (F110 s v1) rfl)) uu2
theorem kc32 (s:Za) (sep:Za) {K_:Prop} (p0_:s.size<=4294967280) (p1_:1<=sep.size) (q0_:1<=sep.size) (q1_:1<=sep.size) (k_:((F32 s sep).length<=s.size+1)->(1<=(F32 s sep).length)->K_):(s.size<=4294967280/\1<=sep.size)/\(Imp (.v (.string s)) (.v (.string s)))/\(Imp (.v (.string sep)) (.v (.string sep)))/\K_:=⟨⟨p0_,p1_⟩,Imp.refl _,Imp.refl _,k_ (splitS_le s sep q0_) (splitS_pos s sep q1_)⟩
abbrev kh32 (s:Za) (sep:Za):Hint true Tryz.prog:=.call 32 (S32 s sep) (ok32 s sep) none
theorem kc110 (s:List Za) (v1:Za) {K_:Prop} (k_:K_):(True)/\(Imp (.l 1 eStr s) (.l 1 eStr s))/\(Imp (.v (.string v1)) (.v (.string v1)))/\K_:=⟨trivial,Imp.refl _,Imp.refl _,k_⟩
abbrev kh110 (s:List Za) (v1:Za):Hint true Tryz.prog:=.call 110 (S110 s v1) (ok110 s v1) none
abbrev w2_:Za:=⟨#[44]⟩
abbrev Xz:List Za:=[Zj,Zn,Ze,Zp,Zf,Zq,Zh,Zk]
def F107_s0 (word:Za):Int->Lp Int (List Za×Bool):=fun v19 =>
 bif (decide (v19<((F32 word ⟨#[44]⟩).length:Int))) then (bif (bif (!(F110 Xz ((F32 word ⟨#[44]⟩).getD v19.toNat default))) then true else (bif decide (v19>0) then (!(Op.bytesLess ((F32 word ⟨#[44]⟩).getD (v19-1).toNat default).toList ((F32 word ⟨#[44]⟩).getD v19.toNat default).toList)) else false)) then (.ret (([]:List Za),false)) else (.next (v19+1))) else (.done v19)
def F107 (word:Za):List Za×Bool :=
 bif (bif (word.toList==Zt.toList) then true else (word.toList==Zu.toList)) then (([word]:List Za),true) else ((runL (F107_s0 word) ((((F32 word ⟨#[44]⟩).length:Int)-0).toNat+1) 0).fin (fun r=>r) (fun v19=>((F32 word ⟨#[44]⟩),true)))
abbrev lN107_0 (word:Za):Nat×Int:=(((((F32 word w2_).length:Int)-0).toNat+1),0)
abbrev lI107_0 (word:Za) (m39:Nat) (v19:Int):Prop:=Int.toNat (((F32 word w2_).length:Int)-v19)<m39/\(0:Int)<=v19
abbrev lX107_0 (word:Za):Lp Int (List Za×Bool):=LpX (F107_s0 word) (lN107_0 word)
abbrev lJ107_0 (word:Za) (i:Nat×Int):Prop:=LpJ (F107_s0 word) (lN107_0 word) i (lI107_0 word i.1 i.2)
abbrev lH107_0 (word:Za) (i:Nat×Int) (m39:Nat) (v19:Int):Prop:=LpH (F107_s0 word) (lN107_0 word) i m39 v19 (lI107_0 word (m39+1) v19)
abbrev lE107_0 (word:Za) (v19:Int) (v19_:Int) (K39:Prop):Prop:=(Rf (.int .i64 ((F32 word w2_).length:Int)))/\((.int .i64 v19:Value)=.int .i64 v19_)/\(Im (.l 1 eStr (F32 word w2_)))/\K39
theorem un107_0 (word:Za) (i:Nat×Int) (h:lJ107_0 word i):lH107_0 word i (i.1-1) i.2:=⟨hd1 h.1 h.2.1,hd3 h.2.1,hd2 h.2.1,h.2.2⟩
theorem bk107_0 (word:Za) (i:Nat×Int) (m39:Nat) (v19:Int) (hl:m39<i.1) (e:runL (F107_s0 word) m39 v19=lX107_0 word) (h:lI107_0 word m39 v19):∃ j:Nat×Int,lE107_0 word v19 j.2 (lJ107_0 word j/\j.1<i.1):=⟨(m39,v19),rfl,rfl,Imp.refl _,⟨e,h⟩,hl⟩
theorem en107_0 (word:Za) (h:(0:Int)<=0):lE107_0 word 0 0 (lJ107_0 word (lN107_0 word)):=⟨rfl,rfl,Imp.refl _,rfl,Qt _,h⟩
theorem fi107 (word:Za) (r:List Za×Bool) (hF:r=(F107 word)):(Imp (.l 1 eStr r.1) (.l 1 eStr (F107 word).1))/\((.bool r.2:Value)=.bool (F107 word).2)/\True:=by cases hF; exact ⟨Imp.refl _,rfl,trivial⟩
def S107 (word:Za):Spec:=⟨[.r (.c (.v (.string word)))],.tu [.ow (.l 1 eStr (F107 word).1),.v (.bool (F107 word).2)],word.size<=1048576⟩
theorem ok107 (word:Za):(S107 word).ok Tryz.prog 107 :=
 fnG_ok mixed (fn:=Tryz.f107) (ct:=.seq .no (.seq (.seq .no (.cond (.seq (.reg [(1,.dat (.l 1 eStr ([word]:List Za)))]) .no) .no)) (.seq (.reg [(1,kh32 word w2_)]) (.seq (.seqk [(4,0),(17,0)] .no (.blk (.loop (ι:=Nat×Int) (fun i=>(fun (v19:Int)=>(⟨[(4,some (.h 0 0)),(17,some (.h 0 0)),(18,some (.v (vI ((F32 word w2_).length:Int)))),(19,some (.v (vI v19)))],[(0,some (.own 0 (.l 1 eStr (F32 word w2_))))],1⟩:St)) i.2) (lJ107_0 word) (fun i=>i.1) (lN107_0 word) (fun i=>(fun (v19:Int)=>(.seq .no (.seq (.cond .no .no) (.seq (.blk (.seq .no (.seq (.reg [(0,.dat (.l 1 eStr Xz)),(2,kh110 Xz ((F32 word w2_).getD v19.toNat default)),(10,.bnd)]) (.cond (.seq .no .no) .no)))) (.reg [(0,.bnd)]))))) i.2)))) (.seq .no .no))))) Tryz.func107 (fun (hpre0:word.size<=1048576)=>ifb (bif (word.toList==Zt.toList) then true else (word.toList==Zu.toList)) (fun h1=>ai (bokr 1 eStr ([word]:List Za) fun _=>rfl) (fi107 word (([word]:List Za),true) (condT h1 rfl))) (fun h1=>have _:(word.toList==Zt.toList)=false:=(orF1 h1); have _:(word.toList==Zu.toList)=false:=(orF2 h1); kc32 word w2_ uu0 uu1 uu1 uu1 (fun gv2 gv3=>kn (F32 word w2_) fun _=>kn (F32 word w2_) fun _=>ai (en107_0 word uu0) (fun (i0:Nat×Int) (hi0:lJ107_0 word i0)=>(fun (m0:Nat) (v19:Int) (hh0:lH107_0 word i0 m0 v19)=>have hI0:=hh0.1; have hl0:=hh0.2.1; have _:=hh0.2.2.1; have _:=hh0.2.2.2; ifd (v19<((F32 word w2_).length:Int)) (fun h5 _=>ai (uu0:ib v19 (F32 word w2_)) (ai (bokr 1 eStr Xz fun _=>rfl) (kc110 Xz ((F32 word w2_).getD v19.toNat default) (ai (fun k7:(decide (v19>0))=true=>have _:=Qb k7; (fun k6:(!(F110 Xz ((F32 word w2_).getD v19.toNat default)))=false=>iok (v19-1) uu0)) (ai (fun k9:(decide (v19>0))=true=>have _:=Qb k9; (fun k8:(!(F110 Xz ((F32 word w2_).getD v19.toNat default)))=false=>(uu0:ib (v19-1) (F32 word w2_)))) (ifb (bif (!(F110 Xz ((F32 word w2_).getD v19.toNat default))) then true else (bif decide (v19>0) then (!(Op.bytesLess ((F32 word w2_).getD (v19-1).toNat default).toList ((F32 word w2_).getD v19.toNat default).toList)) else false)) (fun h10=>(fun hF:(([]:List Za),false)=(F107 word)=>ai ((Imp.nil 1 eStr).trans (Imp.of_eq (Qg (fun r:List Za×Bool=>Dat.l 1 eStr r.1) hF))) (ai (Qg (fun r:List Za×Bool=>(.bool r.2:Value)) hF) trivial)) (condF h1 (finR (runL_ret hI0 (condT h5 (condT h10 rfl))) rfl))) (fun h10=>ai (iok (v19+1) uu0) (bk107_0 word i0 m0 (v19+1) hl0 (runL_next hI0 (condT h5 (condF h10 rfl))) uu7)))))))) (fun h5 _=>have hD0_11:lX107_0 word=Lp.done v19:=runL_done hI0 (condF h5 rfl); fi107 word ((F32 word w2_),true) (condF h1 (finD hD0_11 rfl)))) (i0.1-1) i0.2 (un107_0 word i0 hi0))))) uu2
def F99 (w1:Za):Bool :=
 (w1.toList==Zc.toList)
def S99 (w1:Za):Spec:=⟨[.r (.c (.v (.string w1)))],.v (.bool (F99 w1)),True⟩
theorem ok99 (w1:Za):(S99 w1).ok Tryz.prog 99 :=
 fnG_ok mixed (fn:=Tryz.f99) (ct:=.seq .no (.seq .no .no)) Tryz.func99 (fun (_:True)=>fiB (w1.toList==Zc.toList) (F99 w1) rfl) uu2
def fsQ54 (Q:Za->Prop) (p:Za->Bool):FnSpec:=⟨Za,fun i=>[.c (.x (PX (.v (.string i)) (Q i)))],fun i=>.bool (p i)⟩
def F67_s0 (s:List Za) (f:Za->Bool):Int->Lp Int Int:=fun v8 =>
 bif (decide (v8<(s.length:Int))) then (bif (f (s.getD v8.toNat default)) then (.ret v8) else (.next (v8+1))) else (.done v8)
def F67 (s:List Za) (f:Za->Bool):Int :=
 (runL (F67_s0 s f) (((s.length:Int)-0).toNat+1) 0).fin (fun r=>r) (fun v8=>(-1))
abbrev lN67_0 (s:List Za):Nat×Int:=((((s.length:Int)-0).toNat+1),0)
abbrev lI67_0 (s:List Za) (m39:Nat) (v8:Int):Prop:=Int.toNat ((s.length:Int)-v8)<m39/\(0:Int)<=v8
abbrev lX67_0 (s:List Za) (f:Za->Bool):Lp Int Int:=LpX (F67_s0 s f) (lN67_0 s)
abbrev lJ67_0 (s:List Za) (f:Za->Bool) (i:Nat×Int):Prop:=LpJ (F67_s0 s f) (lN67_0 s) i (lI67_0 s i.1 i.2)
abbrev lH67_0 (s:List Za) (f:Za->Bool) (i:Nat×Int) (m39:Nat) (v8:Int):Prop:=LpH (F67_s0 s f) (lN67_0 s) i m39 v8 (lI67_0 s (m39+1) v8)
abbrev lE67_0 (Qf:Za->Prop) (s:List Za) (f:Za->Bool) (v8:Int) (v8_:Int) (K39:Prop):Prop:=(Rf (.int .i64 (s.length:Int)))/\((.int .i64 v8:Value)=.int .i64 v8_)/\(Im (.l 1 eStr s))/\(fsQ54 Qf f=fsQ54 Qf f)/\K39
theorem un67_0 (s:List Za) (f:Za->Bool) (i:Nat×Int) (h:lJ67_0 s f i):lH67_0 s f i (i.1-1) i.2:=⟨hd1 h.1 h.2.1,hd3 h.2.1,hd2 h.2.1,h.2.2⟩
theorem bk67_0 (Qf:Za->Prop) (s:List Za) (f:Za->Bool) (i:Nat×Int) (m39:Nat) (v8:Int) (hl:m39<i.1) (e:runL (F67_s0 s f) m39 v8=lX67_0 s f) (h:lI67_0 s m39 v8):∃ j:Nat×Int,lE67_0 Qf s f v8 j.2 (lJ67_0 s f j/\j.1<i.1):=⟨(m39,v8),rfl,rfl,Imp.refl _,rfl,⟨e,h⟩,hl⟩
theorem en67_0 (Qf:Za->Prop) (s:List Za) (f:Za->Bool) (h:(0:Int)<=0):lE67_0 Qf s f 0 0 (lJ67_0 s f (lN67_0 s)):=⟨rfl,rfl,Imp.refl _,rfl,rfl,Qt _,h⟩
def S67 (R:Int) (s:List Za) (f:Za->Bool) (Qf:Za->Prop):Spec:=⟨[.r (.c (.l 1 eStr s)),.fn (fsQ54 Qf f)],.v (vI R),(∀ k:Nat,k<s.length->Qf (s.getD k default))⟩
theorem ok67 (s:List Za) (f:Za->Bool) (Qf:Za->Prop):(S67 (F67 s f) s f Qf).ok Tryz.prog 67 false :=
 fnG_ok mixed (fn:=Tryz.f67) (ct:=.seqk [(0,0)] .no (.seq (.seqk [(0,0)] .no (.blk (.loop (ι:=Nat×Int) (fun i=>(fun (v8:Int)=>(⟨[(0,some (.h 0 0)),(1,some (.h 1 0)),(7,some (.v (vI (s.length:Int)))),(8,some (.v (vI v8)))],[(0,some (.shr none (.l 1 eStr s))),(1,some (.fn (fsQ54 Qf f)))],2⟩:St)) i.2) (lJ67_0 s f) (fun i=>i.1) (lN67_0 s) (fun i=>(fun (v8:Int)=>(.seq .no (.seq (.cond .no .no) (.seq (.blk (.seq .no (.seq (.reg [(5,.fnv (fsQ54 Qf f) (s.getD v8.toNat default))]) (.cond (.seq .no .no) .no)))) (.reg [(0,.bnd)]))))) i.2)))) (.seq .no .no))) Tryz.func67 (fun (hpre0:∀ k:Nat,k<s.length->Qf (s.getD k default))=>kn s fun _=>kn s fun _=>ai (en67_0 Qf s f uu0) (fun (i0:Nat×Int) (hi0:lJ67_0 s f i0)=>(fun (m0:Nat) (v8:Int) (hh0:lH67_0 s f i0 m0 v8)=>have hI0:=hh0.1; have hl0:=hh0.2.1; have _:=hh0.2.2.1; have _:=hh0.2.2.2; ifd (v8<(s.length:Int)) (fun h2 _=>ai (uu0:ib v8 s) (ai (Eq.refl (fsQ54 Qf f)) (ai (Imp.px (d:=.v (.string (s.getD v8.toNat default))) (hpre0 v8.toNat uu0)) (ifb (f (s.getD v8.toNat default)) (fun h3=>fiI v8 (F67 s f) (finR (runL_ret hI0 (condT h2 (condT h3 rfl))) rfl)) (fun h3=>ai (iok (v8+1) uu0) (bk67_0 Qf s f i0 m0 (v8+1) hl0 (runL_next hI0 (condT h2 (condF h3 rfl))) uu7)))))) (fun h2 _=>have hD0_4:lX67_0 s f=Lp.done v8:=runL_done hI0 (condF h2 rfl); fiI (-1) (F67 s f) (finD hD0_4 rfl))) (i0.1-1) i0.2 (un67_0 s f i0 hi0))) uu2
theorem as67 (s:List Za) (f:Za->Bool):F67 s f=(idxI f s):=by
 exact idx_loop f s (F67_s0 s f) (fun i=>rfl)
theorem oa67 (s:List Za) (f:Za->Bool) (Qf:Za->Prop):(S67 (idxI f s) s f Qf).ok Tryz.prog 67 false:=by
 intro hp; have h:=ok67 s f Qf hp; rw [as67 s f] at h; exact h
theorem g67_0 (s:List Za) (f:Za->Bool):(idxI f s)<(s.length:Int):=by
 exact idxI_lt f s
theorem g67_1 (s:List Za) (f:Za->Bool):-1<=(idxI f s):=by
 (show -1<=idxI f s; unfold idxI; cases first (fun k=>f (s.getD k default)) s.length <;> simp only [oix] <;> omega)
theorem kc67a (s:List Za) (f:Za->Bool) (Qf:Za->Prop) {K_:Prop} (p0_:∀ k:Nat,k<s.length->Qf (s.getD k default)) (k_:((idxI f s)<(s.length:Int))->(-1<=(idxI f s))->K_):(∀ k:Nat,k<s.length->Qf (s.getD k default))/\(Imp (.l 1 eStr s) (.l 1 eStr s))/\(fsQ54 Qf f=fsQ54 Qf f)/\K_:=⟨p0_,Imp.refl _,rfl,k_ (g67_0 s f) (g67_1 s f)⟩
abbrev kh67a (s:List Za) (f:Za->Bool) (Qf:Za->Prop):Hint false Tryz.prog:=.call 67 (S67 (idxI f s) s f Qf) (oa67 s f Qf) none
def F98_s0 (s:List Za) (del:Za->Bool):(Int×Int×List Za)->Lp (Int×Int×List Za) (List Za):=fun (i41,j1,xs) =>
 bif (decide (j1<(xs.length:Int))) then (bif (!(del (xs.getD j1.toNat default))) then (.next ((i41+1),(j1+1),(xs.set (i41).toNat (xs.getD j1.toNat default)))) else (.next (i41,(j1+1),xs))) else (.done (i41,j1,xs))
def F98_j0 (s:List Za) (del:Za->Bool):Lp (List Za×Int) (List Za) :=
 (runL (F98_s0 s del) (((s.length:Int)-((idxI del s)+1)).toNat+1) ((idxI del s),((idxI del s)+1),s)).fin Lp.ret (fun (i41,j1,xs)=>.done (xs,i41))
def F98 (s:List Za) (del:Za->Bool):List Za :=
 bif ((idxI del s)==(-1)) then s else ((F98_j0 s del).fin (fun r=>r) (fun (s1,i40)=>((s1.take i40.toNat++List.replicate (s1.drop i40.toNat).length (Zc:Za)++s1.drop (i40.toNat+(s1.drop i40.toNat).length)).take i40.toNat)))
abbrev lN98_0 (s:List Za) (del:Za->Bool):Nat×(Int×Int×List Za):=((((s.length:Int)-((idxI del s)+1)).toNat+1),((idxI del s),((idxI del s)+1),s))
abbrev lI98_0 (Qdel:Za->Prop) (s:List Za) (m39:Nat) (i41:Int) (j1:Int) (xs:List Za):Prop:=Int.toNat ((xs.length:Int)-j1)<m39/\(0<=i41/\i41<j1)/\j1<=(xs.length:Int)/\xs.length<=1000000000/\(∀ k:Nat,j1<=(k:Int)->k<xs.length->Qdel (xs.getD k default))/\xs.length=s.length
abbrev lX98_0 (s:List Za) (del:Za->Bool):Lp (Int×Int×List Za) (List Za):=LpX (F98_s0 s del) (lN98_0 s del)
abbrev lJ98_0 (Qdel:Za->Prop) (s:List Za) (del:Za->Bool) (i:Nat×(Int×Int×List Za)):Prop:=LpJ (F98_s0 s del) (lN98_0 s del) i (lI98_0 Qdel s i.1 i.2.1 i.2.2.1 i.2.2.2)
abbrev lH98_0 (Qdel:Za->Prop) (s:List Za) (del:Za->Bool) (i:Nat×(Int×Int×List Za)) (m39:Nat) (i41:Int) (j1:Int) (xs:List Za):Prop:=LpH (F98_s0 s del) (lN98_0 s del) i m39 (i41,j1,xs) (lI98_0 Qdel s (m39+1) i41 j1 xs)
abbrev lE98_0 (Qdel:Za->Prop) (del:Za->Bool) (i41:Int) (j1:Int) (xs:List Za) (i41_:Int) (j1_:Int) (xs_:List Za) (K39:Prop):Prop:=((.int .i64 i41:Value)=.int .i64 i41_)/\((.int .i64 j1:Value)=.int .i64 j1_)/\(Imp (.l 1 eStr xs) (.l 1 eStr xs_))/\(fsQ54 Qdel del=fsQ54 Qdel del)/\K39
theorem un98_0 (Qdel:Za->Prop) (s:List Za) (del:Za->Bool) (i:Nat×(Int×Int×List Za)) (h:lJ98_0 Qdel s del i):lH98_0 Qdel s del i (i.1-1) i.2.1 i.2.2.1 i.2.2.2:=⟨hd1 h.1 h.2.1,hd3 h.2.1,hd2 h.2.1,h.2.2⟩
theorem bk98_0 (Qdel:Za->Prop) (s:List Za) (del:Za->Bool) (i:Nat×(Int×Int×List Za)) (m39:Nat) (i41:Int) (j1:Int) (xs:List Za) (hl:m39<i.1) (e:runL (F98_s0 s del) m39 (i41,j1,xs)=lX98_0 s del) (h:lI98_0 Qdel s m39 i41 j1 xs):∃ j:Nat×(Int×Int×List Za),lE98_0 Qdel del i41 j1 xs j.2.1 j.2.2.1 j.2.2.2 (lJ98_0 Qdel s del j/\j.1<i.1):=⟨(m39,(i41,j1,xs)),rfl,rfl,Imp.refl _,rfl,⟨e,h⟩,hl⟩
theorem en98_0 (Qdel:Za->Prop) (s:List Za) (del:Za->Bool) (h:(0<=(idxI del s)/\(idxI del s)<((idxI del s)+1))/\((idxI del s)+1)<=(s.length:Int)/\s.length<=1000000000/\(∀ k:Nat,((idxI del s)+1)<=(k:Int)->k<s.length->Qdel (s.getD k default))/\s.length=s.length):lE98_0 Qdel del (idxI del s) ((idxI del s)+1) s (idxI del s) ((idxI del s)+1) s (lJ98_0 Qdel s del (lN98_0 s del)):=⟨rfl,rfl,Imp.refl _,rfl,rfl,Qt _,h⟩
abbrev jI98_0 (s:List Za) (del:Za->Bool) (s1:List Za) (i40:Int):Prop:=(0<=i40/\i40<=(s1.length:Int))/\True
abbrev jJ98_0 (s:List Za) (del:Za->Bool) (j:List Za×Int):Prop:=(F98_j0 s del)=Lp.done j/\jI98_0 s del j.1 j.2
theorem jn98_0 (s:List Za) (del:Za->Bool) (s1:List Za) (i40:Int) (e:(F98_j0 s del)=Lp.done (s1,i40)) (h:jI98_0 s del s1 i40):∃ j:List Za×Int,((.int .i64 i40:Value)=.int .i64 j.2)/\(Imp (.l 1 eStr s1) (.l 1 eStr j.1))/\jJ98_0 s del j:=⟨(s1,i40),rfl,Imp.refl _,e,h⟩
theorem fi98 (s:List Za) (del:Za->Bool) (r:List Za) (hF:r=(F98 s del)):(Imp (.l 1 eStr r) (.l 1 eStr (F98 s del)))/\True:=by cases hF; exact ⟨Imp.refl _,trivial⟩
def S98 (R:List Za) (s:List Za) (del:Za->Bool) (Qdel:Za->Prop):Spec:=⟨[.ow (.l 1 eStr s) none,.fn (fsQ54 Qdel del)],.ow (.l 1 eStr R),s.length<=1000000000/\(∀ k:Nat,k<s.length->Qdel (s.getD k default))⟩
theorem ok98 (s:List Za) (del:Za->Bool) (Qdel:Za->Prop):(S98 (F98 s del) s del Qdel).ok Tryz.prog 98 false :=
 fnG_ok mixed (fn:=Tryz.f98) (ct:=.seqk [(0,0)] .no (.seq (.reg [(2,kh67a s del Qdel)]) (.seq (.seq .no (.cond (.seq .no .no) .no)) (.cut (ι:=List Za×Int) (fun j=>(fun (s1:List Za) (i40:Int)=>(⟨[(0,some (.h 0 0)),(5,some (.v (vI i40)))],[(0,some (.own 0 (.l 1 eStr s1)))],1⟩:St)) j.1 j.2) (jJ98_0 s del) (.seqk [(0,0)] (.reg [(1,.bnd)]) (.blk (.loop (ι:=Nat×(Int×Int×List Za)) (fun i=>(fun (i41:Int) (j1:Int) (xs:List Za)=>(⟨[(0,some (.h 0 0)),(1,some (.h 1 0)),(5,some (.v (vI i41))),(6,some (.v (vI j1)))],[(0,some (.own 0 (.l 1 eStr xs))),(1,some (.fn (fsQ54 Qdel del)))],2⟩:St)) i.2.1 i.2.2.1 i.2.2.2) (lJ98_0 Qdel s del) (fun i=>i.1) (lN98_0 s del) (fun i=>(fun (i41:Int) (j1:Int) (xs:List Za)=>(.seq (.seq .no (.cond .no .no)) (.seq (.blk (.seq .no (.seq (.reg [(2,.fnv (fsQ54 Qdel del) (xs.getD j1.toNat default))]) (.cond (.seq (.reg [(4,.dat (.l 1 eStr (xs.set (i41).toNat (xs.getD j1.toNat default))))]) (.reg [(1,.bnd)])) .no)))) (.reg [(1,.bnd)])))) i.2.1 i.2.2.1 i.2.2.2)))) (fun j=>(fun (s1:List Za) (i40:Int)=>(.seq (.reg [(2,.part),(3,.dat (.l 1 eStr (s1.take i40.toNat++List.replicate (s1.drop i40.toNat).length (Zc:Za)++s1.drop (i40.toNat+(s1.drop i40.toNat).length))))]) (.seq (.reg [(2,.own)]) .no))) j.1 j.2))))) Tryz.func98 (fun (hp:s.length<=1000000000/\(∀ k:Nat,k<s.length->Qdel (s.getD k default)))=>have hpre0:=hp.1; have hpre1:=hp.2; kn s fun _=>kc67a s del Qdel uu44 (fun gv1 gv2=>ife (idxI del s) (-1) (fun h3 _=>fi98 s del s (condT h3 rfl)) (fun h3 _=>ai (ai (iok ((idxI del s)+1) uu3) (kn s fun _=>ai (en98_0 Qdel s del (by refine ⟨?_,?_,?_,?_,?_⟩ <;> first | omega | (simp only [lens,ib] at*<;> omega) | (intro k hk hk2; first | exact (by assumption:∀ k:Nat,k<s.length->Qdel (s.getD k default)) k hk2 | exact (by assumption:∀ k:Nat,j1<=(k:Int)->k<xs.length->Qdel (xs.getD k default)) k (by first | omega | (simp only [lens,ib] at*<;> omega)) hk2 | (rw [getD_set_ne _ _ _ _ (by first | omega | (simp only [lens,ib] at*<;> omega))]; exact (by assumption:∀ k:Nat,j1<=(k:Int)->k<xs.length->Qdel (xs.getD k default)) k (by first | omega | (simp only [lens,ib] at*<;> omega)) (by simpa using hk2))))) (fun (i0:Nat×(Int×Int×List Za)) (hi0:lJ98_0 Qdel s del i0)=>(fun (m0:Nat) (i41:Int) (j1:Int) (xs:List Za) (hh0:lH98_0 Qdel s del i0 m0 i41 j1 xs)=>have hI0:=hh0.1; have hl0:=hh0.2.1; have _:=hh0.2.2.1; have _:=hh0.2.2.2.1; have _:=hh0.2.2.2.2.1; have _:=hh0.2.2.2.2.2.1; have _:=hh0.2.2.2.2.2.2.1; have _:=hh0.2.2.2.2.2.2.2; ifd (j1<(xs.length:Int)) (fun h5 _=>ai (uu3:ib j1 xs) (ai (Eq.refl (fsQ54 Qdel del)) (ai (Imp.px (d:=.v (.string (xs.getD j1.toNat default))) ((uu17:∀ k:Nat,j1<=(k:Int)->k<xs.length->Qdel (xs.getD k default)) j1.toNat uu3 uu3)) (ifb (!(del (xs.getD j1.toNat default))) (fun h6=>have _:=(notET h6); ai (uu3:ib i41 xs) (ai (setr 1 eStr xs (i41).toNat (xs.getD j1.toNat default)) (ai (iok (i41+1) uu3) (ai (iok (j1+1) uu3) (bk98_0 Qdel s del i0 m0 (i41+1) (j1+1) (xs.set (i41).toNat (xs.getD j1.toNat default)) hl0 (runL_next hI0 (condT h5 (condT h6 rfl))) uu58))))) (fun h6=>have _:=(notEF h6); ai (iok (j1+1) uu3) (bk98_0 Qdel s del i0 m0 i41 (j1+1) xs hl0 (runL_next hI0 (condT h5 (condF h6 rfl))) uu58)))))) (fun h5 _=>have hD0_7:lX98_0 s del=Lp.done (i41,j1,xs):=runL_done hI0 (condF h5 rfl); jn98_0 s del xs i41 (Tk (finD hD0_7 rfl)) (by refine ⟨?_,?_⟩ <;> first | exact trivial | omega | (simp only [lens,ib] at*<;> omega)))) (i0.1-1) i0.2.1 i0.2.2.1 i0.2.2.2 (un98_0 Qdel s del i0 hi0)))) (fun (j:List Za×Int) (hj:jJ98_0 s del j)=>(fun (s1:List Za) (i40:Int) (hJ0_8:(F98_j0 s del)=Lp.done (s1,i40)) (hw:jI98_0 s del s1 i40)=>have _:=hw.1; ai (uu3:0<=i40/\i40<=(s1.length:Int)/\(s1.length:Int)<=(s1.length:Int)) (ai (ClearOK.mk eStr s1 (Zc:Za) rfl (fun y e he=>by simp only [eStr,Qr,Rd,Tu] at he; rcases he with rfl <;> exact ⟨_,rfl⟩):ClearOK (.l 1 eStr s1) i40.toNat (s1.drop i40.toNat).length 1 [.string Zc] (.l 1 eStr (s1.take i40.toNat++List.replicate (s1.drop i40.toNat).length (Zc:Za)++s1.drop (i40.toNat+(s1.drop i40.toNat).length)))) (ai (uu3:0<=(0:Int)/\(0:Int)<=i40/\i40<=((s1.take i40.toNat++List.replicate (s1.drop i40.toNat).length (Zc:Za)++s1.drop (i40.toNat+(s1.drop i40.toNat).length)).length:Int)) (fi98 s del ((s1.take i40.toNat++List.replicate (s1.drop i40.toNat).length (Zc:Za)++s1.drop (i40.toNat+(s1.drop i40.toNat).length)).take i40.toNat) (condF h3 (finD hJ0_8 rfl)))))) j.1 j.2 hj.1 hj.2)))) uu2
theorem as98 (s:List Za) (del:Za->Bool):F98 s del=(s.filter (fun x=>!(del x))):=by
 exact del_loop del s _ (F98_s0 s del) (fun i j xs=>rfl)
theorem oa98 (s:List Za) (del:Za->Bool) (Qdel:Za->Prop):(S98 (s.filter (fun x=>!(del x))) s del Qdel).ok Tryz.prog 98 false:=by
 intro hp; have h:=ok98 s del Qdel hp; rw [as98 s del] at h; exact h
def F100 (w1:Za):Bool :=
 decide ((w1.size:Int)>24)
def S100 (w1:Za):Spec:=⟨[.r (.c (.v (.string w1)))],.v (.bool (F100 w1)),True⟩
theorem ok100 (w1:Za):(S100 w1).ok Tryz.prog 100 :=
 fnG_ok mixed (fn:=Tryz.f100) (ct:=.seq .no (.seq .no .no)) Tryz.func100 (fun (_:True)=>fiB (decide ((w1.size:Int)>24)) (F100 w1) rfl) uu2
def F44 (s:List Za) (f:Za->Bool):Bool :=
 decide ((idxI f s)>=0)
def S44 (R:Bool) (s:List Za) (f:Za->Bool) (Qf:Za->Prop):Spec:=⟨[.r (.c (.l 1 eStr s)),.fn (fsQ54 Qf f)],.v (.bool R),(∀ k:Nat,k<s.length->Qf (s.getD k default))⟩
theorem ok44 (s:List Za) (f:Za->Bool) (Qf:Za->Prop):(S44 (F44 s f) s f Qf).ok Tryz.prog 44 false :=
 fnG_ok mixed (fn:=Tryz.f44) (ct:=.seqk [(0,0)] .no (.seq (.reg [(2,kh67a s f Qf)]) .no)) Tryz.func44 (fun (hpre0:∀ k:Nat,k<s.length->Qf (s.getD k default))=>kn s fun _=>kc67a s f Qf uu17 (fun gv1 gv2=>fiB (decide ((idxI f s)>=0)) (F44 s f) rfl)) uu2
theorem as44 (s:List Za) (f:Za->Bool):F44 s f=(s.any f):=by
 exact any_idx f s
theorem oa44 (s:List Za) (f:Za->Bool) (Qf:Za->Prop):(S44 (s.any f) s f Qf).ok Tryz.prog 44 false:=by
 intro hp; have h:=ok44 s f Qf hp; rw [as44 s f] at h; exact h
abbrev kh32f (s:Za) (sep:Za):Hint false Tryz.prog:=.call 32 (S32 s sep) ((ok32 s sep).to false) none
def F68_s0 (line:Za):Int->Lp Int (List Za×Bool):=fun i40 =>
 bif (decide (i40<((F96 line Zd).1.size:Int))) then (bif (!(decide (32<=(IntKind.i64.wrap (((F96 line Zd).1.data.getD i40.toNat 0).toNat:Int))/\(IntKind.i64.wrap (((F96 line Zd).1.data.getD i40.toNat 0).toNat:Int))<=126))) then (.ret (([]:List Za),false)) else (.next (i40+1))) else (.done i40)
def F68 (line:Za):List Za×Bool :=
 (runL (F68_s0 line) ((((F96 line Zd).1.size:Int)-0).toNat+1) 0).fin (fun r=>r) (fun i40=>bif (bif decide ((((F32 (F96 line Zd).1 Zb).filter (fun x=>!((fun (x0:Za)=>F99 x0) x))).length:Int)>8) then true else (((F32 (F96 line Zd).1 Zb).filter (fun x=>!((fun (x0:Za)=>F99 x0) x))).any (fun (x0:Za)=>F100 x0))) then (([]:List Za),false) else (((F32 (F96 line Zd).1 Zb).filter (fun x=>!((fun (x0:Za)=>F99 x0) x))),true))
abbrev lN68_0 (line:Za):Nat×Int:=(((((F96 line Zd).1.size:Int)-0).toNat+1),0)
abbrev lI68_0 (line:Za) (m39:Nat) (i40:Int):Prop:=Int.toNat (((F96 line Zd).1.size:Int)-i40)<m39/\(0:Int)<=i40
abbrev lX68_0 (line:Za):Lp Int (List Za×Bool):=LpX (F68_s0 line) (lN68_0 line)
abbrev lJ68_0 (line:Za) (i:Nat×Int):Prop:=LpJ (F68_s0 line) (lN68_0 line) i (lI68_0 line i.1 i.2)
abbrev lH68_0 (line:Za) (i:Nat×Int) (m39:Nat) (i40:Int):Prop:=LpH (F68_s0 line) (lN68_0 line) i m39 i40 (lI68_0 line (m39+1) i40)
abbrev lE68_0 (line:Za) (i40:Int) (i40_:Int) (K39:Prop):Prop:=(Rf (.string (F96 line Zd).1))/\((.int .i64 i40:Value)=.int .i64 i40_)/\K39
theorem un68_0 (line:Za) (i:Nat×Int) (h:lJ68_0 line i):lH68_0 line i (i.1-1) i.2:=⟨hd1 h.1 h.2.1,hd3 h.2.1,hd2 h.2.1,h.2.2⟩
theorem bk68_0 (line:Za) (i:Nat×Int) (m39:Nat) (i40:Int) (hl:m39<i.1) (e:runL (F68_s0 line) m39 i40=lX68_0 line) (h:lI68_0 line m39 i40):∃ j:Nat×Int,lE68_0 line i40 j.2 (lJ68_0 line j/\j.1<i.1):=⟨(m39,i40),rfl,rfl,⟨e,h⟩,hl⟩
theorem en68_0 (line:Za) (h:(0:Int)<=0):lE68_0 line 0 0 (lJ68_0 line (lN68_0 line)):=⟨rfl,rfl,rfl,Qt _,h⟩
theorem fi68 (line:Za) (r:List Za×Bool) (hF:r=(F68 line)):(Imp (.l 1 eStr r.1) (.l 1 eStr (F68 line).1))/\((.bool r.2:Value)=.bool (F68 line).2)/\True:=by cases hF; exact ⟨Imp.refl _,rfl,trivial⟩
def S68 (line:Za):Spec:=⟨[.r (.c (.v (.string line)))],.tu [.ow (.l 1 eStr (F68 line).1),.v (.bool (F68 line).2)],line.size<=1048576⟩
theorem ok68 (line:Za):(S68 line).ok Tryz.prog 68 false :=
 fnG_ok mixed (fn:=Tryz.f68) (ct:=.seq .no (.seq (.reg [(1,kh96f line Zd)]) (.seq (.seq .no (.blk (.loop (ι:=Nat×Int) (fun i=>(fun (i40:Int)=>(⟨[(0,some (.v (.string (F96 line Zd).1))),(4,some (.v (vI i40)))],[],0⟩:St)) i.2) (lJ68_0 line) (fun i=>i.1) (lN68_0 line) (fun i=>(fun (i40:Int)=>(.seq (.seq .no (.cond .no .no)) (.seq (.blk (.seq (.reg [(4,kh97af (IntKind.i64.wrap (((F96 line Zd).1.data.getD i40.toNat 0).toNat:Int)) 32 126)]) (.cond (.seq .no .no) .no))) (.reg [(1,.bnd)])))) i.2)))) (.seq (.reg [(1,kh32f (F96 line Zd).1 Zb),(2,.call 98 (S98 ((F32 (F96 line Zd).1 Zb).filter (fun x=>!((fun (x0:Za)=>F99 x0) x))) (F32 (F96 line Zd).1 Zb) (fun (x0:Za)=>F99 x0) (fun (x0:Za)=>True)) (oa98 (F32 (F96 line Zd).1 Zb) (fun (x0:Za)=>F99 x0) (fun (x0:Za)=>True)) (some ⟨true,99,fsQ54 (fun (x0:Za)=>True) (fun (x0:Za)=>F99 x0),[],rfl,True,fun i=>ok_px (ok99 i)⟩))]) (.seq (.seq (.reg [(5,.call 44 (S44 (((F32 (F96 line Zd).1 Zb).filter (fun x=>!((fun (x0:Za)=>F99 x0) x))).any (fun (x0:Za)=>F100 x0)) ((F32 (F96 line Zd).1 Zb).filter (fun x=>!((fun (x0:Za)=>F99 x0) x))) (fun (x0:Za)=>F100 x0) (fun (x0:Za)=>True)) (oa44 ((F32 (F96 line Zd).1 Zb).filter (fun x=>!((fun (x0:Za)=>F99 x0) x))) (fun (x0:Za)=>F100 x0) (fun (x0:Za)=>True)) (some ⟨true,100,fsQ54 (fun (x0:Za)=>True) (fun (x0:Za)=>F100 x0),[],rfl,True,fun i=>ok_px (ok100 i)⟩))]) (.cond (.seq .no .no) .no)) (.seq .no .no)))))) Tryz.func68 (fun (hpre0:line.size<=1048576)=>kc96 line Zd uu0 (fun gv1 gv2=>ai (en68_0 line uu0) (fun (i0:Nat×Int) (hi0:lJ68_0 line i0)=>(fun (m0:Nat) (i40:Int) (hh0:lH68_0 line i0 m0 i40)=>have hI0:=hh0.1; have hl0:=hh0.2.1; have _:=hh0.2.2.1; have _:=hh0.2.2.2; ifd (i40<((F96 line Zd).1.size:Int)) (fun h4 _=>ai (uu0:0<=i40/\i40<((F96 line Zd).1.size:Int)) (kc97a (IntKind.i64.wrap (((F96 line Zd).1.data.getD i40.toNat 0).toNat:Int)) 32 126 (ifb (!(decide (32<=(IntKind.i64.wrap (((F96 line Zd).1.data.getD i40.toNat 0).toNat:Int))/\(IntKind.i64.wrap (((F96 line Zd).1.data.getD i40.toNat 0).toNat:Int))<=126))) (fun h5=>have _:¬ (32<=(IntKind.i64.wrap (((F96 line Zd).1.data.getD i40.toNat 0).toNat:Int))/\(IntKind.i64.wrap (((F96 line Zd).1.data.getD i40.toNat 0).toNat:Int))<=126):=Qw (notET h5); (fun hF:(([]:List Za),false)=(F68 line)=>ai ((Imp.nil 1 eStr).trans (Imp.of_eq (Qg (fun r:List Za×Bool=>Dat.l 1 eStr r.1) hF))) (ai (Qg (fun r:List Za×Bool=>(.bool r.2:Value)) hF) trivial)) (finR (runL_ret hI0 (condT h4 (condT h5 rfl))) rfl)) (fun h5=>have _:32<=(IntKind.i64.wrap (((F96 line Zd).1.data.getD i40.toNat 0).toNat:Int))/\(IntKind.i64.wrap (((F96 line Zd).1.data.getD i40.toNat 0).toNat:Int))<=126:=Qb (notEF h5); ai (iok (i40+1) uu0) (bk68_0 line i0 m0 (i40+1) hl0 (runL_next hI0 (condT h4 (condF h5 rfl))) uu7))))) (fun h4 _=>have hD0_6:lX68_0 line=Lp.done i40:=runL_done hI0 (condF h4 rfl); kc32 (F96 line Zd).1 Zb uu0 uu1 uu1 uu1 (fun gv7 gv8=>ai (ai (uu0:(F32 (F96 line Zd).1 Zb).length<=1000000000) (by (intros; exact trivial):∀ k:Nat,k<(F32 (F96 line Zd).1 Zb).length->(fun (x0:Za)=>True) ((F32 (F96 line Zd).1 Zb).getD k default))) (ai (Imp.refl (.l 1 eStr (F32 (F96 line Zd).1 Zb))) (ai (Eq.refl (fsQ54 (fun (x0:Za)=>True) (fun (x0:Za)=>F99 x0))) (ai trivial (ai (fun k9:(decide ((((F32 (F96 line Zd).1 Zb).filter (fun x=>!((fun (x0:Za)=>F99 x0) x))).length:Int)>8))=false=>have _:¬ (((F32 (F96 line Zd).1 Zb).filter (fun x=>!((fun (x0:Za)=>F99 x0) x))).length:Int)>8:=Qw k9; (by (intros; exact trivial):∀ k:Nat,k<((F32 (F96 line Zd).1 Zb).filter (fun x=>!((fun (x0:Za)=>F99 x0) x))).length->(fun (x0:Za)=>True) (((F32 (F96 line Zd).1 Zb).filter (fun x=>!((fun (x0:Za)=>F99 x0) x))).getD k default))) (ai (fun k10:(decide ((((F32 (F96 line Zd).1 Zb).filter (fun x=>!((fun (x0:Za)=>F99 x0) x))).length:Int)>8))=false=>have _:¬ (((F32 (F96 line Zd).1 Zb).filter (fun x=>!((fun (x0:Za)=>F99 x0) x))).length:Int)>8:=Qw k10; (Imp.refl (.l 1 eStr ((F32 (F96 line Zd).1 Zb).filter (fun x=>!((fun (x0:Za)=>F99 x0) x)))))) (ai (fun k11:(decide ((((F32 (F96 line Zd).1 Zb).filter (fun x=>!((fun (x0:Za)=>F99 x0) x))).length:Int)>8))=false=>have _:¬ (((F32 (F96 line Zd).1 Zb).filter (fun x=>!((fun (x0:Za)=>F99 x0) x))).length:Int)>8:=Qw k11; (Eq.refl (fsQ54 (fun (x0:Za)=>True) (fun (x0:Za)=>F100 x0)))) (ai (fun k12:(decide ((((F32 (F96 line Zd).1 Zb).filter (fun x=>!((fun (x0:Za)=>F99 x0) x))).length:Int)>8))=false=>have _:¬ (((F32 (F96 line Zd).1 Zb).filter (fun x=>!((fun (x0:Za)=>F99 x0) x))).length:Int)>8:=Qw k12; trivial) (ifb (bif decide ((((F32 (F96 line Zd).1 Zb).filter (fun x=>!((fun (x0:Za)=>F99 x0) x))).length:Int)>8) then true else (((F32 (F96 line Zd).1 Zb).filter (fun x=>!((fun (x0:Za)=>F99 x0) x))).any (fun (x0:Za)=>F100 x0))) (fun h13=>(fun hF:(([]:List Za),false)=(F68 line)=>ai ((Imp.nil 1 eStr).trans (Imp.of_eq (Qg (fun r:List Za×Bool=>Dat.l 1 eStr r.1) hF))) (ai (Qg (fun r:List Za×Bool=>(.bool r.2:Value)) hF) trivial)) (finD hD0_6 (condT h13 rfl))) (fun h13=>have _:¬ (((F32 (F96 line Zd).1 Zb).filter (fun x=>!((fun (x0:Za)=>F99 x0) x))).length:Int)>8:=Qw (orF1 h13); fi68 line (((F32 (F96 line Zd).1 Zb).filter (fun x=>!((fun (x0:Za)=>F99 x0) x))),true) (finD hD0_6 (condF h13 rfl)))))))))))))) (i0.1-1) i0.2 (un68_0 line i0 hi0)))) uu2
end Go.Proofs.YtpeklolpimhioaaGreatDoor
namespace Go.Proofs.YtpeklolpimhioaaGreatDoor
open Go.RowKit
set_option maxRecDepth 100000
set_option linter.unusedVariables false
set_option linter.unusedSimpArgs false
def splitL (c:UInt8):List UInt8->List (List UInt8)
 | []=>[[]]
 | b :: l=>if b=c then [] :: splitL c l else (match splitL c l with | []=>[[b]] | w :: ws=>(b :: w) :: ws)
theorem splitL_none {c:UInt8}:∀ {l:List UInt8},c ∉ l->splitL c l=[l]
 | [],_=>rfl
 | b :: l,h=>by
  have hb:b≠c:=fun e=>h (by rw [e]; exact Ql)
  rw [splitL,if_neg hb,splitL_none (fun hm=>h (Qj _ hm))]
theorem splitL_app {c:UInt8} (b:List UInt8):∀ {a:List UInt8},c ∉ a->splitL c (a++c :: b)=a :: splitL c b
 | [],_=>by rw [Sh,splitL,if_pos rfl]
 | x :: a,h=>by
  have hb:x≠c:=fun e=>h (by rw [e]; exact Ql)
  rw [Te,splitL,if_neg hb,splitL_app b (fun hm=>h (Qj _ hm))]
theorem index_split (c:UInt8):∀ l:List UInt8,(Lib.index l [c]=-1/\c ∉ l)\/∃ a b,l=a++c :: b/\c ∉ a/\Lib.index l [c]=(a.length:Int)
 | []=>.inl ⟨rfl,by simp⟩
 | x :: l=>by
  rw [Lib.index_one,Lib.indexByte]
  by_cases hx:x=c
  ·subst hx
   exact .inr ⟨[],l,rfl,by simp,by simp⟩
  ·have hx':(x==c)=false:=by simpa using hx
   rw [hx']
   rcases index_split c l with ⟨h1,h2⟩ | ⟨a,b,h1,h2,h3⟩
   ·rw [Lib.index_one] at h1
    refine .inl ⟨by rw [h1]; rfl,fun hm=>?_⟩
    rcases Qr.1 hm with h | h
    ·exact hx h.symm
    ·exact h2 h
   ·rw [Lib.index_one] at h3
    refine .inr ⟨x :: a,b,by rw [h1]; rfl,fun hm=>?_,?_⟩
    ·rcases Qr.1 hm with h | h
     ·exact hx h.symm
     ·exact h2 h
    ·rw [h3]
     have:((a.length:Int)==-1)=false:=by
      rw [Qx]; omega
     simp only [this,Tm,G1,Q4]
     omega
theorem ba_ext {a b:Za} (h:a.data.toList=b.data.toList):a=b:=by
 cases a; cases b
 simp only at h
 congr
 exact Ty h
theorem cut_cases (s:Za) (c:UInt8):(c ∉ s.data.toList/\cut3 s ⟨#[c]⟩=(s,Zc,false))\/∃ a b,s.data.toList=a++c :: b/\c ∉ a/\cut3 s ⟨#[c]⟩=(⟨a.toArray⟩,⟨b.toArray⟩,true):=by
 rcases index_split c s.data.toList with ⟨h1,h2⟩ | ⟨a,b,h1,h2,h3⟩
 ·refine .inl ⟨h2,?_⟩
  unfold cut3 Lib.cut
  rw [h1]
  rfl
 ·refine .inr ⟨a,b,h1,h2,?_⟩
  unfold cut3 Lib.cut
  rw [h3,if_pos uu0,h1]
  simp
theorem splitS_aux (c:UInt8):∀ (k:Nat) (s:Za),s.data.toList.count c=k->(Lib.splitB ⟨#[c]⟩ 0 k s).map (·.data.toList)=splitL c s.data.toList
 | 0,s,hk=>by
  rw [splitL_none (List.count_eq_zero.1 hk)]
  rfl
 | k+1,s,hk=>by
  rcases index_split c s.data.toList with ⟨h1,h2⟩ | ⟨a,b,h1,h2,h3⟩
  ·rw [List.count_eq_zero.2 h2] at hk; omega
  ·have hi:Lib.indexB s ⟨#[c]⟩=(a.length:Int):=h3
   unfold Lib.splitB
   rw [hi,if_neg (by rw [Sp]; omega),Rb,h1,splitL_app b h2]
   have hsz:s.size=a.length+(b.length+1):=by
    have:=Qg List.length h1
    rw [Q6,Q4,Q9] at this
    exact this
   have e1:(s.extract 0 (((a.length:Int)).toNat+0)).data.toList=a:=by
    rw [Ge,Gt,Tj,h1,Rn,Tw,Nat.sub_zero,R8]
    rw [Sk (Qp _),List.take_length]
   have e2:(s.extract (((a.length:Int)).toNat+(⟨#[c]⟩:Za).size) s.size).data.toList=b:=by
    have hc1:(⟨#[c]⟩:Za).size=1:=rfl
    rw [hc1]
    simp only [Ge,Gt,Tj,h1,Rn,hsz]
    rw [Su,Q8 uu0,Sh]
    have e3:a.length+1-a.length=1:=by omega
    rw [e3,List.drop_succ_cons,R8,Ss uu0]
   rw [e1,splitS_aux c k _ (by rw [e2]; rw [h1] at hk; simp [List.count_eq_zero.2 h2] at hk; omega),e2]
theorem splitS_one (s:Za) (c:UInt8):(splitS s ⟨#[c]⟩).map (·.data.toList)=splitL c s.data.toList:=by
 have:Lib.countB s ⟨#[c]⟩=s.data.toList.count c:=Lib.count_one c s.data.toList
 unfold splitS
 rw [this]
 exact splitS_aux c _ s rfl
def F66_s0 (line:Za):Int->Lp Int Za:=fun i40 =>
 bif (decide (i40<(line.size:Int))) then (bif (((line.data.getD i40.toNat 0).toNat:Int)==35) then (.ret (line.extract (0:Int).toNat i40.toNat)) else (.next (i40+1))) else (.done i40)
def F66 (line:Za):Za :=
 (runL (F66_s0 line) (((line.size:Int)-0).toNat+1) 0).fin (fun r=>r) (fun i40=>line)
abbrev lN66_0 (line:Za):Nat×Int:=((((line.size:Int)-0).toNat+1),0)
abbrev lI66_0 (line:Za) (m39:Nat) (i40:Int):Prop:=Int.toNat ((line.size:Int)-i40)<m39/\(0:Int)<=i40
abbrev lX66_0 (line:Za):Lp Int Za:=LpX (F66_s0 line) (lN66_0 line)
abbrev lJ66_0 (line:Za) (i:Nat×Int):Prop:=LpJ (F66_s0 line) (lN66_0 line) i (lI66_0 line i.1 i.2)
abbrev lH66_0 (line:Za) (i:Nat×Int) (m39:Nat) (i40:Int):Prop:=LpH (F66_s0 line) (lN66_0 line) i m39 i40 (lI66_0 line (m39+1) i40)
abbrev lE66_0 (line:Za) (i40:Int) (i40_:Int) (K39:Prop):Prop:=(Rf (.string line))/\((.int .i64 i40:Value)=.int .i64 i40_)/\K39
theorem un66_0 (line:Za) (i:Nat×Int) (h:lJ66_0 line i):lH66_0 line i (i.1-1) i.2:=⟨hd1 h.1 h.2.1,hd3 h.2.1,hd2 h.2.1,h.2.2⟩
theorem bk66_0 (line:Za) (i:Nat×Int) (m39:Nat) (i40:Int) (hl:m39<i.1) (e:runL (F66_s0 line) m39 i40=lX66_0 line) (h:lI66_0 line m39 i40):∃ j:Nat×Int,lE66_0 line i40 j.2 (lJ66_0 line j/\j.1<i.1):=⟨(m39,i40),rfl,rfl,⟨e,h⟩,hl⟩
theorem en66_0 (line:Za) (h:(0:Int)<=0):lE66_0 line 0 0 (lJ66_0 line (lN66_0 line)):=⟨rfl,rfl,rfl,Qt _,h⟩
def S66 (R:Za) (line:Za):Spec:=⟨[.r (.c (.v (.string line)))],.v (.string R),line.size<=1048576⟩
theorem ok66 (line:Za):(S66 (F66 line) line).ok Tryz.prog 66 :=
 fnG_ok mixed (fn:=Tryz.f66) (ct:=.seq .no (.seq (.seq .no (.blk (.loop (ι:=Nat×Int) (fun i=>(fun (i40:Int)=>(⟨[(0,some (.v (.string line))),(3,some (.v (vI i40)))],[],0⟩:St)) i.2) (lJ66_0 line) (fun i=>i.1) (lN66_0 line) (fun i=>(fun (i40:Int)=>(.seq (.seq .no (.cond .no .no)) (.seq (.blk (.seq .no (.cond (.seq .no .no) .no))) (.reg [(1,.bnd)])))) i.2)))) (.seq .no .no))) Tryz.func66 (fun (hpre0:line.size<=1048576)=>ai (en66_0 line uu0) (fun (i0:Nat×Int) (hi0:lJ66_0 line i0)=>(fun (m0:Nat) (i40:Int) (hh0:lH66_0 line i0 m0 i40)=>have hI0:=hh0.1; have hl0:=hh0.2.1; have _:=hh0.2.2.1; have _:=hh0.2.2.2; ifd (i40<(line.size:Int)) (fun h2 _=>ai (uu0:0<=i40/\i40<(line.size:Int)) (ife ((line.data.getD i40.toNat 0).toNat:Int) 35 (fun h3 _=>ai (uu0:0<=(0:Int)/\(0:Int)<=i40/\i40<=(line.size:Int)) (fiS (line.extract (0:Int).toNat i40.toNat) (F66 line) (finR (runL_ret hI0 (condT h2 (condT h3 rfl))) rfl))) (fun h3 _=>ai (iok (i40+1) uu0) (bk66_0 line i0 m0 (i40+1) hl0 (runL_next hI0 (condT h2 (condF h3 rfl))) uu7)))) (fun h2 _=>have hD0_4:lX66_0 line=Lp.done i40:=runL_done hI0 (condF h2 rfl); fiS line (F66 line) (finD hD0_4 rfl))) (i0.1-1) i0.2 (un66_0 line i0 hi0))) uu2
theorem getD_list (s:Za) (i:Nat):s.data.getD i 0=s.data.toList.getD i 0:=by
 simp [Array.getD,Qd]
 split <;> simp_all
theorem cut_at {s:Za} {c:UInt8} {i:Nat} (hi:i<s.size) (h:s.data.toList.getD i 0=c) (hn:∀ j,j<i->s.data.toList.getD j 0≠c):(cut3 s ⟨#[c]⟩).1=s.extract 0 i:=by
 have hl:s.data.toList.length=s.size:=Q9
 rcases cut_cases s c with ⟨h1,_⟩ | ⟨a,b,h1,h2,h3⟩
 ·exact absurd (by rw [<- h,Qd,Qe (by omega)]; exact G7 _) h1
 ·rw [h3]
  have hai:a.length=i:=by
   rcases Nat.lt_trichotomy a.length i with hlt | heq | hgt
   ·refine absurd ?_ (hn a.length hlt)
    rw [h1,Qd,Ro (Qp _)]
    simp
   ·exact heq
   ·rw [h1,Qd,Se hgt,Qe hgt] at h
    exact absurd (h ▸ G7 hgt) h2
  refine ba_ext ?_
  rw [Ge,Gt,Tj,h1,R8,Nat.sub_zero,<- hai,Sk (Qp _),List.take_length]
theorem cut_not {s:Za} {c:UInt8} (hn:∀ j,j<s.size->s.data.toList.getD j 0≠c):(cut3 s ⟨#[c]⟩).1=s:=by
 have hl:s.data.toList.length=s.size:=Q9
 rcases cut_cases s c with ⟨_,h1⟩ | ⟨a,b,h1,h2,h3⟩
 ·rw [h1]
 ·refine absurd ?_ (hn a.length (by rw [<- hl,h1]; simp))
  rw [h1,Qd,Ro (Qp _)]
  simp
theorem u8_eq (b:UInt8) (k:UInt8):((b.toNat:Int)==(k.toNat:Int))=decide (b=k):=by
 rw [beqD]
 congr 1
 refine propext ⟨fun h=>?_,fun h=>by rw [h]⟩
 exact UInt8.toNat_inj.1 uu0
theorem strip_aux (s:Za):∀ (m i:Nat),i+m=s.size->(∀ j,j<i->s.data.toList.getD j 0≠35)->∀ fuel,m<fuel ->
  (runL (F66_s0 s) fuel (i:Int)).fin (fun r=>r) (fun _=>s)=(cut3 s Zd).1
 | m,i,_,_,0,hf=>absurd hf (Sd _)
 | 0,i,h,hn,fuel+1,_=>by
  have h1:decide ((i:Int)<(s.size:Int))=false:=Qq uu0
  simp only [runL,F66_s0,h1,Qh]
  rw [cut_not (fun j hj=>hn j uu0)]
  rfl
 | m+1,i,h,hn,fuel+1,hf=>by
  have h1:decide ((i:Int)<(s.size:Int))=true:=Qs uu0
  have h2:=u8_eq (s.data.toList.getD i 0) 35
  have h3:((35:UInt8).toNat:Int)=35:=rfl
  rw [h3] at h2
  simp only [runL,F66_s0,h1,Qc,Rn,getD_list,h2]
  by_cases hc:s.data.toList.getD i 0=35
  ·rw [Qs hc,Qc,cut_at uu0 hc hn]
   rfl
  ·rw [Qq hc,Qh]
   have:=strip_aux s m (i+1) uu0 (fun j hj=>by
    rcases T6 j i with h4 | h4
    ·exact hn j h4
    ·obtain rfl:j=i:=by omega
     exact hc) fuel uu0
   simpa using this
theorem as66 (line:Za):F66 line=((cut3 line Zd).1):=by
 unfold F66
 exact strip_aux line line.size 0 uu0 (fun j hj=>absurd hj (Sd _)) _ uu0
theorem cutA_le (line:Za):((cut3 line Zd).1.size:Int)<=line.size:=cut3_le1 _ _
theorem cutA_le2 (line:Za) (h:line.size<=1048576):(cut3 line Zd).1.size<=1048576:=by
 have:=cut3_le1 line Zd
 omega
theorem oa66 (line:Za):(S66 (cut3 line Zd).1 line).ok Tryz.prog 66:=by
 intro hp; have h:=ok66 line hp; rw [as66 line] at h; exact h
theorem kc66a (line:Za) {K_:Prop} (p0_:line.size<=1048576) (q0_:line.size<=1048576) (k_:(((cut3 line Zd).1.size:Int)<=line.size)->((cut3 line Zd).1.size<=1048576)->K_):(line.size<=1048576)/\(Imp (.v (.string line)) (.v (.string line)))/\K_:=⟨p0_,Imp.refl _,k_ (cutA_le line) (cutA_le2 line q0_)⟩
abbrev kh66a (line:Za):Hint true Tryz.prog:=.call 66 (S66 (cut3 line Zd).1 line) (oa66 line) none
def F43_s0 (line:Za):(List Za×List Int×Int)->Lp (List Za×List Int×Int) (List Za×Bool):=fun (out,word,i40) =>
 bif (decide (i40<=((cut3 line Zd).1.size:Int))) then (bif (bif decide (i40<((cut3 line Zd).1.size:Int)) then (bif decide ((((cut3 line Zd).1.data.getD i40.toNat 0).toNat:Int)<32) then true else decide ((((cut3 line Zd).1.data.getD i40.toNat 0).toNat:Int)>126)) else false) then (.ret (([]:List Za),false)) else (bif (bif decide (i40<((cut3 line Zd).1.size:Int)) then ((((cut3 line Zd).1.data.getD i40.toNat 0).toNat:Int) != 32) else false) then (bif (decide (((word++[(((cut3 line Zd).1.data.getD i40.toNat 0).toNat:Int)]).length:Int)>24)) then (.ret (([]:List Za),false)) else (.next (out,(word++[(((cut3 line Zd).1.data.getD i40.toNat 0).toNat:Int)]),(i40+1)))) else (bif (decide ((word.length:Int)>0)) then (bif (decide (((out++[(strOfB word)]).length:Int)>8)) then (.ret (([]:List Za),false)) else (.next ((out++[(strOfB word)]),([]:List Int),(i40+1)))) else (.next (out,word,(i40+1)))))) else (.done (out,word,i40))
def F43 (line:Za):List Za×Bool :=
 (runL (F43_s0 line) ((((cut3 line Zd).1.size:Int)-0+1).toNat+1) (([]:List Za),([]:List Int),0)).fin (fun r=>r) (fun (out,word,i40)=>(out,true))
abbrev lN43_0 (line:Za):Nat×(List Za×List Int×Int):=(((((cut3 line Zd).1.size:Int)-0+1).toNat+1),(([]:List Za),([]:List Int),0))
abbrev lI43_0 (line:Za) (m39:Nat) (out:List Za) (word:List Int) (i40:Int):Prop:=Int.toNat (((cut3 line Zd).1.size:Int)-i40+1)<m39/\word.length<=24/\out.length<=8/\(0:Int)<=i40
abbrev lX43_0 (line:Za):Lp (List Za×List Int×Int) (List Za×Bool):=LpX (F43_s0 line) (lN43_0 line)
abbrev lJ43_0 (line:Za) (i:Nat×(List Za×List Int×Int)):Prop:=LpJ (F43_s0 line) (lN43_0 line) i (lI43_0 line i.1 i.2.1 i.2.2.1 i.2.2.2)
abbrev lH43_0 (line:Za) (i:Nat×(List Za×List Int×Int)) (m39:Nat) (out:List Za) (word:List Int) (i40:Int):Prop:=LpH (F43_s0 line) (lN43_0 line) i m39 (out,word,i40) (lI43_0 line (m39+1) out word i40)
abbrev lE43_0 (line:Za) (out:List Za) (word:List Int) (i40:Int) (out_:List Za) (word_:List Int) (i40_:Int) (K39:Prop):Prop:=(Rf (.string (cut3 line Zd).1))/\((.int .i64 i40:Value)=.int .i64 i40_)/\(Imp (.l 1 eStr out) (.l 1 eStr out_))/\(Imp (.l 1 eByte word) (.l 1 eByte word_))/\K39
theorem un43_0 (line:Za) (i:Nat×(List Za×List Int×Int)) (h:lJ43_0 line i):lH43_0 line i (i.1-1) i.2.1 i.2.2.1 i.2.2.2:=⟨hd1 h.1 h.2.1,hd3 h.2.1,hd2 h.2.1,h.2.2⟩
theorem bk43_0 (line:Za) (i:Nat×(List Za×List Int×Int)) (m39:Nat) (out:List Za) (word:List Int) (i40:Int) (hl:m39<i.1) (e:runL (F43_s0 line) m39 (out,word,i40)=lX43_0 line) (h:lI43_0 line m39 out word i40):∃ j:Nat×(List Za×List Int×Int),lE43_0 line out word i40 j.2.1 j.2.2.1 j.2.2.2 (lJ43_0 line j/\j.1<i.1):=⟨(m39,(out,word,i40)),rfl,rfl,Imp.refl _,Imp.refl _,⟨e,h⟩,hl⟩
theorem en43_0 (line:Za) (h:([]:List Int).length<=24/\([]:List Za).length<=8/\(0:Int)<=0):lE43_0 line ([]:List Za) ([]:List Int) 0 ([]:List Za) ([]:List Int) 0 (lJ43_0 line (lN43_0 line)):=⟨rfl,rfl,Imp.refl _,Imp.refl _,rfl,Qt _,h⟩
theorem fi43 (line:Za) (r:List Za×Bool) (hF:r=(F43 line)):(Imp (.l 1 eStr r.1) (.l 1 eStr (F43 line).1))/\((.bool r.2:Value)=.bool (F43 line).2)/\True:=by cases hF; exact ⟨Imp.refl _,rfl,trivial⟩
def S43 (line:Za):Spec:=⟨[.r (.c (.v (.string line)))],.tu [.ow (.l 1 eStr (F43 line).1),.v (.bool (F43 line).2)],line.size<=1048576⟩
theorem ok43 (line:Za):(S43 line).ok Tryz.prog 43 :=
 fnG_ok mixed (fn:=Tryz.f43) (ct:=.seq .no (.seq (.reg [(1,kh66a line)]) (.seq (.reg [(0,.dat (.l 1 eStr ([]:List Za)))]) (.seq (.reg [(0,.dat (.l 1 eByte ([]:List Int)))]) (.seq (.seqk [(5,0),(6,0)] .no (.blk (.loop (ι:=Nat×(List Za×List Int×Int)) (fun i=>(fun (out:List Za) (word:List Int) (i40:Int)=>(⟨[(4,some (.v (.string (cut3 line Zd).1))),(5,some (.h 0 0)),(6,some (.h 1 0)),(7,some (.v (vI i40)))],[(0,some (.own 0 (.l 1 eStr out))),(1,some (.own 1 (.l 1 eByte word)))],2⟩:St)) i.2.1 i.2.2.1 i.2.2.2) (lJ43_0 line) (fun i=>i.1) (lN43_0 line) (fun i=>(fun (out:List Za) (word:List Int) (i40:Int)=>(.seq (.seq .no (.cond .no .no)) (.seq (.blk (.seq (.seq .no (.cond (.seq (.reg [(0,.dat (.l 1 eStr ([]:List Za)))]) .no) .no)) (.seq (.seq .no (.cond (.seq (.reg [(5,.dat (.l 1 eByte (word++[(((cut3 line Zd).1.data.getD i40.toNat 0).toNat:Int)])))]) (.seq (.seq .no (.cond (.seq (.reg [(0,.dat (.l 1 eStr ([]:List Za)))]) .no) .no)) .no)) .no)) (.seq .no (.cond (.seq (.reg [(2,.str (strOfB word)),(4,.dat (.l 1 eStr (out++[(strOfB word)])))]) (.seq (.reg [(0,.dat (.l 1 eByte ([]:List Int)))]) (.seq .no (.cond (.seq (.reg [(0,.dat (.l 1 eStr ([]:List Za)))]) .no) .no)))) .no))))) (.reg [(1,.bnd)])))) i.2.1 i.2.2.1 i.2.2.2)))) (.seq .no .no)))))) Tryz.func43 (fun (hpre0:line.size<=1048576)=>kc66a line uu3 uu3 (fun gv1 gv2=>ai (bokr 1 eStr ([]:List Za) fun _=>rfl) (ai (bokr 1 eByte ([]:List Int) fun _=>rfl) (kn ([]:List Za) fun _=>kn ([]:List Int) fun _=>ai (en43_0 line uu39) (fun (i0:Nat×(List Za×List Int×Int)) (hi0:lJ43_0 line i0)=>(fun (m0:Nat) (out:List Za) (word:List Int) (i40:Int) (hh0:lH43_0 line i0 m0 out word i40)=>have hI0:=hh0.1; have hl0:=hh0.2.1; have _:=hh0.2.2.1; have _:=hh0.2.2.2; ifd (i40<=((cut3 line Zd).1.size:Int)) (fun h4 _=>ai (fun k5:(decide (i40<((cut3 line Zd).1.size:Int)))=true=>have _:i40<((cut3 line Zd).1.size:Int):=Qb k5; (uu3:0<=i40/\i40<((cut3 line Zd).1.size:Int))) (ai (fun k7:(decide ((((cut3 line Zd).1.data.getD i40.toNat 0).toNat:Int)<32))=false=>have _:¬ (((cut3 line Zd).1.data.getD i40.toNat 0).toNat:Int)<32:=Qw k7; (fun k6:(decide (i40<((cut3 line Zd).1.size:Int)))=true=>have _:i40<((cut3 line Zd).1.size:Int):=Qb k6; (uu3:0<=i40/\i40<((cut3 line Zd).1.size:Int)))) (ifb (bif decide (i40<((cut3 line Zd).1.size:Int)) then (bif decide ((((cut3 line Zd).1.data.getD i40.toNat 0).toNat:Int)<32) then true else decide ((((cut3 line Zd).1.data.getD i40.toNat 0).toNat:Int)>126)) else false) (fun h8=>have _:i40<((cut3 line Zd).1.size:Int):=Qb (andT1 h8); ai (bokr 1 eStr ([]:List Za) fun _=>rfl) (fi43 line (([]:List Za),false) (finR (runL_ret hI0 (condT h4 (condT h8 rfl))) rfl))) (fun h8=>ai (fun k9:(decide (i40<((cut3 line Zd).1.size:Int)))=true=>have _:i40<((cut3 line Zd).1.size:Int):=Qb k9; (uu3:0<=i40/\i40<((cut3 line Zd).1.size:Int))) (ifb (bif decide (i40<((cut3 line Zd).1.size:Int)) then ((((cut3 line Zd).1.data.getD i40.toNat 0).toNat:Int) != 32) else false) (fun h10=>have _:i40<((cut3 line Zd).1.size:Int):=Qb (andT1 h10); have _:¬ (((cut3 line Zd).1.data.getD i40.toNat 0).toNat:Int)=32:=bneT (andT2 h10); ai (uu3:0<=i40/\i40<((cut3 line Zd).1.size:Int)) (ai (AppA.mk eByte word [(((cut3 line Zd).1.data.getD i40.toNat 0).toNat:Int)] (Imp.refl (.l 1 eByte word)) rfl (by exact ai (Imp.u8 (by first | exact u8a _ | exact u8m _ | exact u8w _)) trivial) (fun _=>rfl):AppA (.l 1 eByte word) 1 1 [.v (.int .u8 (((cut3 line Zd).1.data.getD i40.toNat 0).toNat:Int))] (.l 1 eByte (word++[(((cut3 line Zd).1.data.getD i40.toNat 0).toNat:Int)]))) (ai (uu16:(word++[(((cut3 line Zd).1.data.getD i40.toNat 0).toNat:Int)]).length*1<=140737488355328) (ifd (((word++[(((cut3 line Zd).1.data.getD i40.toNat 0).toNat:Int)]).length:Int)>24) (fun h11 _=>ai (bokr 1 eStr ([]:List Za) fun _=>rfl) (fi43 line (([]:List Za),false) (finR (runL_ret hI0 (condT h4 (condF h8 (condT h10 (condT h11 rfl))))) rfl))) (fun h11 _=>ai (iok (i40+1) uu3) (bk43_0 line i0 m0 out (word++[(((cut3 line Zd).1.data.getD i40.toNat 0).toNat:Int)]) (i40+1) hl0 (runL_next hI0 (condT h4 (condF h8 (condT h10 (condF h11 rfl))))) uu45)))))) (fun h10=>ifd ((word.length:Int)>0) (fun h12 _=>ai (ConvOK.mk eByte word (fun x=>x%256) (fun _=>rfl):ConvOK (.l 1 eByte word) (strOfB word)) (ai (appr 1 eStr out [(strOfB word)] fun _=>rfl) (ai (uu16:(out++[(strOfB word)]).length*16<=140737488355328) (ai (bokr 1 eByte ([]:List Int) fun _=>rfl) (ifd (((out++[(strOfB word)]).length:Int)>8) (fun h13 _=>ai (bokr 1 eStr ([]:List Za) fun _=>rfl) (fi43 line (([]:List Za),false) (finR (runL_ret hI0 (condT h4 (condF h8 (condF h10 (condT h12 (condT h13 rfl)))))) rfl))) (fun h13 _=>ai (iok (i40+1) uu3) (bk43_0 line i0 m0 (out++[(strOfB word)]) ([]:List Int) (i40+1) hl0 (runL_next hI0 (condT h4 (condF h8 (condF h10 (condT h12 (condF h13 rfl)))))) uu45))))))) (fun h12 _=>ai (iok (i40+1) uu3) (bk43_0 line i0 m0 out word (i40+1) hl0 (runL_next hI0 (condT h4 (condF h8 (condF h10 (condF h12 rfl))))) uu45)))))))) (fun h4 _=>have hD0_14:lX43_0 line=Lp.done (out,word,i40):=runL_done hI0 (condF h4 rfl); fi43 line (out,true) (finD hD0_14 rfl))) (i0.1-1) i0.2.1 i0.2.2.1 i0.2.2.2 (un43_0 line i0 hi0)))))) uu2
def wordsL (l:List UInt8):List (List UInt8):=(splitL 32 l).filter fun w=>!w.isEmpty
def okB (b:UInt8):Bool:=decide (32<=b.toNat/\b.toNat<=126)
def mkB (l:List UInt8):Za:=⟨l.toArray⟩
theorem mkB_data (l:List UInt8):(mkB l).data.toList=l:=rfl
theorem mkB_self (s:Za):mkB s.data.toList=s:=ba_ext rfl
def fitW (ws:List (List UInt8)):Bool:=decide (ws.length<=8)&&ws.all fun w=>decide (w.length<=24)
def wordsOf (l:List UInt8):List Za×Bool:=bif l.all okB&&fitW (wordsL l) then ((wordsL l).map mkB,true) else ([],false)
def intsB (w:List UInt8):List Int:=w.map fun b=>(b.toNat:Int)
theorem intsB_len (w:List UInt8):(intsB w).length=w.length:=by simp [intsB]
theorem strOfB_ints (w:List UInt8):strOfB (intsB w)=mkB w:=by
 refine ba_ext ?_
 show ((List.map (fun x=>x%256) (intsB w)).map fun n=>UInt8.ofNat n.toNat)=w
 rw [Gw,intsB,Gw]
 refine (Tv (g:=id) fun b _=>?_).trans (Hb w)
 have h:=b.toNat_lt
 have e:((b.toNat:Int)%256).toNat=b.toNat:=by omega
 simp only [Function.comp_apply,e,id]
 exact UInt8.ofNat_toNat
def specW:List UInt8->List Za->List UInt8->List Za×Bool
 | [],out,w=>if w=[] then (out,true) else if out.length+1>8 then ([],false) else (out++[mkB w],true)
 | b :: l,out,w=>if okB b=false then ([],false) else if b=32 then (if w=[] then specW l out w else if out.length+1>8 then ([],false) else specW l (out++[mkB w]) [])
  else if w.length+1>24 then ([],false) else specW l out (w++[b])
theorem splitL_head (c:UInt8):∀ (l w:List UInt8),c ∉ w->∃ p ps,splitL c (w++l)=(w++p) :: ps
 | [],w,h=>⟨[],[],by rw [Si,splitL_none h]⟩
 | b :: l,w,h=>by
  by_cases hb:b=c
  ·subst hb
   exact ⟨[],splitL b l,by rw [splitL_app l h,Si]⟩
  ·obtain ⟨p,ps,e⟩:=splitL_head c l (w++[b]) (fun hm=>by
    rcases Q1.1 hm with h1 | h1
    ·exact h h1
    ·exact hb (Qu.1 h1).symm)
   exact ⟨b :: p,ps,by rw [<- List.singleton_append,<- Q3,e,Q3]; rfl⟩
theorem specW_eq:∀ (l:List UInt8) (out:List Za) (w:List UInt8),(32:UInt8) ∉ w->w.length<=24->out.length<=8 ->
  specW l out w=bif l.all okB&&(decide (out.length+(wordsL (w++l)).length<=8)&&(wordsL (w++l)).all fun x=>decide (x.length<=24)) then (out++(wordsL (w++l)).map mkB,true) else ([],false)
 | [],out,w,hw,h24,h8=>by
  have e:wordsL (w++[])=if w=[] then [] else [w]:=by
   rw [Si,wordsL,splitL_none hw]
   cases w <;> rfl
  rw [e,specW]
  by_cases h:w=[]
  ·rw [if_pos h,if_pos h]
   have e2:decide (out.length+([]:List (List UInt8)).length<=8)=true:=Qs (by simpa using h8)
   rw [e2,Hd,Si]; rfl
  ·rw [if_neg h,if_neg h]
   by_cases h1:out.length+1>8
   ·rw [if_pos h1]
    have:decide (out.length+[w].length<=8)=false:=Qq (by simp only [Q4,Rw]; omega)
    rw [this]; rfl
   ·rw [if_neg h1]
    have:decide (out.length+[w].length<=8)=true:=Qs (by simp only [Q4,Rw]; omega)
    rw [this,Ru,Qs h24]; rfl
 | b :: l,out,w,hw,h24,h8=>by
  rw [specW,Ru]
  cases hb:okB b with
  | false=>rw [if_pos rfl]; rfl
  | true =>
   rw [if_neg uu18,Sy]
   by_cases h32:b=32
   ·subst h32
    rw [if_pos rfl]
    have e:wordsL (w++32 :: l)=if w=[] then wordsL l else w :: wordsL l:=by
     rw [wordsL,splitL_app l hw,Gx]
     cases w <;> rfl
    rw [e]
    by_cases h:w=[]
    ·rw [if_pos h,if_pos h,h,specW_eq l out [] uu18 uu18 h8,Sh]
    ·rw [if_neg h,if_neg h]
     by_cases h1:out.length+1>8
     ·rw [if_pos h1]
      have:decide (out.length+(w :: wordsL l).length<=8)=false:=Qq uu33
      rw [this,Tq,Sj]; rfl
     ·rw [if_neg h1,specW_eq l (out++[mkB w]) [] uu18 uu18 uu46,Sh]
      have e1:(out++[mkB w]).length+(wordsL l).length=out.length+(w :: wordsL l).length:=by simp only [Q6,Q4,Rw]; omega
      rw [e1,Ru,Qs h24,Sy,Rb,Q3]
      rfl
   ·rw [if_neg h32]
    have hw':(32:UInt8) ∉ w++[b]:=fun hm=>by
     rcases Q1.1 hm with h1 | h1
     ·exact hw h1
     ·exact h32 (Qu.1 h1).symm
    have e2:w++b :: l=(w++[b])++l:=by rw [Q3]; rfl
    by_cases h1:w.length+1>24
    ·rw [if_pos h1]
     obtain ⟨p,ps,e⟩:=splitL_head 32 l (w++[b]) hw'
     have e3:(wordsL (w++b :: l)).all (fun x=>decide (x.length<=24))=false:=by
      rw [e2,wordsL,e,Gx]
      have hne:(!((w++[b])++p).isEmpty)=true:=by cases w <;> rfl
      rw [if_pos hne,Ru,Qq uu46]
      rfl
     rw [e3,Sj,Sj]; rfl
    ·rw [if_neg h1,specW_eq l out (w++[b]) hw' uu46 h8,e2]
theorem runL_n {σ ρ:Type} {step:σ->Lp σ ρ} {s s':σ} (m:Nat) (h:step s=.next s'):runL step (m+1) s=runL step m s':=by
 rw [runL,h]
theorem runL_d {σ ρ:Type} {step:σ->Lp σ ρ} {s s':σ} (m:Nat) (h:step s=.done s'):runL step (m+1) s=.done s':=by
 rw [runL,h]
theorem runL_r {σ ρ:Type} {step:σ->Lp σ ρ} {s:σ} {r:ρ} (m:Nat) (h:step s=.ret r):runL step (m+1) s=.ret r:=by
 rw [runL,h]
theorem len_gt0 {w:List UInt8} (hw:¬ w=[]):decide ((w.length:Int)>0)=true:=by
 cases w with
 | nil=>exact absurd rfl hw
 | cons a w=>exact Qs uu33
theorem spec_end (line s:Za) (hs:(cut3 line Zd).1=s) (out:List Za) (w:List UInt8):F43_s0 line (out,intsB w,(s.size:Int)) =
  if w=[] then .next (out,intsB [],(s.size:Int)+1) else if out.length+1>8 then .ret ([],false) else .next (out++[mkB w],intsB [],(s.size:Int)+1):=by
 have h0:decide ((s.size:Int)<=(s.size:Int))=true:=Qs uu0
 have h1:decide ((s.size:Int)<(s.size:Int))=false:=Qq uu0
 simp only [F43_s0,hs,h0,h1,Qc,Qh,strOfB_ints,intsB_len,Q6,Q4,Rw]
 by_cases hw:w=[]
 ·subst hw; rfl
 ·rw [len_gt0 hw,if_neg hw,Qc]
  by_cases h8:out.length+1>8
  ·have:decide (((out.length+(0+1):Nat):Int)>8)=true:=Qs uu0
   rw [this,if_pos h8]; rfl
  ·have:decide (((out.length+(0+1):Nat):Int)>8)=false:=Qq uu0
   rw [this,if_neg h8]; rfl
theorem spec_out (line s:Za) (hs:(cut3 line Zd).1=s) (out:List Za) (w:List Int):F43_s0 line (out,w,(s.size:Int)+1)=.done (out,w,(s.size:Int)+1):=by
 have h0:decide ((s.size:Int)+1<=(s.size:Int))=false:=Qq uu0
 simp only [F43_s0,hs,h0,Qh]
theorem spec_mid (line s:Za) (hs:(cut3 line Zd).1=s) (out:List Za) (w:List UInt8) (i:Nat) (hi:i<s.size) (b:UInt8) (hb:s.data.toList.getD i 0=b):F43_s0 line (out,intsB w,(i:Int)) =
  if okB b=false then .ret ([],false) else if b=32 then (if w=[] then .next (out,intsB [],(i:Int)+1) else if out.length+1>8 then .ret ([],false) else .next (out++[mkB w],intsB [],(i:Int)+1))
  else if w.length+1>24 then .ret ([],false) else .next (out,intsB (w++[b]),(i:Int)+1):=by
 have h0:decide ((i:Int)<=(s.size:Int))=true:=Qs uu0
 have h1:decide ((i:Int)<(s.size:Int))=true:=Qs uu0
 simp only [F43_s0,hs,h0,h1,Qc,Rn,getD_list,hb]
 have hok:(bif decide ((b.toNat:Int)<32) then true else decide ((b.toNat:Int)>126))=!okB b:=by
  unfold okB
  by_cases h3:(b.toNat:Int)<32
  ·rw [Qs h3,Qc,Qq uu0]; rfl
  ·rw [Qq h3,Qh]
   by_cases h4:(b.toNat:Int)>126
   ·rw [Qs h4,Qq uu0]; rfl
   ·rw [Qq h4,Qs uu0]; rfl
 rw [hok]
 cases okB b with
 | false=>rfl
 | true =>
  have h32:=u8_eq b 32
  have h33:((32:UInt8).toNat:Int)=32:=rfl
  rw [h33] at h32
  have h34:((b.toNat:Int) != 32)=!decide (b=32):=by rw [bne,h32]
  rw [h34]
  simp only [Sa,Qh,Bool.true_eq_false,G1]
  by_cases hc:b=32
  ·rw [Qs hc,if_pos hc]
   simp only [Sa,Qh,strOfB_ints,intsB_len,Q6,Q4,Rw]
   by_cases hw:w=[]
   ·subst hw; rfl
   ·rw [len_gt0 hw,if_neg hw,Qc]
    by_cases h8:out.length+1>8
    ·have:decide (((out.length+(0+1):Nat):Int)>8)=true:=Qs uu0
     rw [this,if_pos h8]; rfl
    ·have:decide (((out.length+(0+1):Nat):Int)>8)=false:=Qq uu0
     rw [this,if_neg h8]; rfl
  ·rw [Qq hc,if_neg hc]
   simp only [Sx,Qc,intsB_len,Q6,Q4,Rw]
   by_cases h24:w.length+1>24
   ·have:decide (((w.length+(0+1):Nat):Int)>24)=true:=Qs uu0
    rw [this,if_pos h24]; rfl
   ·have:decide (((w.length+(0+1):Nat):Int)>24)=false:=Qq uu0
    rw [this,if_neg h24,Qh]
    have e:intsB (w++[b])=intsB w++[(b.toNat:Int)]:=by simp [intsB]
    rw [e]
theorem spec_loop (line s:Za) (hs:(cut3 line Zd).1=s):∀ (m i:Nat) (out:List Za) (w:List UInt8),i+m=s.size->∀ fuel,m+1<fuel ->
  (runL (F43_s0 line) fuel (out,intsB w,(i:Int))).fin (fun r=>r) (fun (out,word,i40)=>(out,true))=specW (s.data.toList.drop i) out w
 | m,i,out,w,_,0,hf=>absurd hf (Sd _)
 | 0,i,out,w,h,fuel+1,hf=>by
  have hl:s.data.toList.length=s.size:=Q9
  obtain rfl:i=s.size:=by omega
  obtain ⟨fuel,rfl⟩:∃ f,fuel=f+1:=⟨fuel-1,by omega⟩
  rw [Q8 uu0,specW]
  have h1:=spec_end line s hs out w
  by_cases hw:w=[]
  ·rw [if_pos hw] at h1 ⊢
   rw [runL_n _ h1,runL_d _ (spec_out line s hs _ _)]; rfl
  ·rw [if_neg hw] at h1 ⊢
   by_cases h8:out.length+1>8
   ·rw [if_pos h8] at h1 ⊢
    rw [runL_r _ h1]; rfl
   ·rw [if_neg h8] at h1 ⊢
    rw [runL_n _ h1,runL_d _ (spec_out line s hs _ _)]; rfl
 | m+1,i,out,w,h,fuel+1,hf=>by
  have hl:s.data.toList.length=s.size:=Q9
  have hb:s.data.toList.drop i=s.data.toList.getD i 0 :: s.data.toList.drop (i+1):=by
   rw [Rk uu0,Qd,Qe uu0]; rfl
  rw [hb,specW]
  have h1:=spec_mid line s hs out w i uu0 _ rfl
  generalize s.data.toList.getD i 0=b at h1 ⊢
  have ei:((i:Int)+1)=((i+1:Nat):Int):=rfl
  rw [ei] at h1
  by_cases hok:okB b=false
  ·rw [if_pos hok] at h1 ⊢
   rw [runL_r _ h1]; rfl
  ·rw [if_neg hok] at h1 ⊢
   by_cases hc:b=32
   ·rw [if_pos hc] at h1 ⊢
    by_cases hw:w=[]
    ·rw [if_pos hw] at h1 ⊢
     rw [runL_n _ h1,hw]
     exact spec_loop line s hs m (i+1) out [] uu0 fuel uu0
    ·rw [if_neg hw] at h1 ⊢
     by_cases h8:out.length+1>8
     ·rw [if_pos h8] at h1 ⊢
      rw [runL_r _ h1]; rfl
     ·rw [if_neg h8] at h1 ⊢
      rw [runL_n _ h1]
      exact spec_loop line s hs m (i+1) (out++[mkB w]) [] uu0 fuel uu0
   ·rw [if_neg hc] at h1 ⊢
    by_cases h24:w.length+1>24
    ·rw [if_pos h24] at h1 ⊢
     rw [runL_r _ h1]; rfl
    ·rw [if_neg h24] at h1 ⊢
     rw [runL_n _ h1]
     exact spec_loop line s hs m (i+1) out (w++[b]) uu0 fuel uu0
theorem spec_words (line:Za):F43 line=wordsOf (cut3 line Zd).1.data.toList:=by
 unfold F43
 have:=spec_loop line _ rfl (cut3 line Zd).1.size 0 [] [] uu0 (Int.toNat (((cut3 line Zd).1.size:Int)-0+1)+1) uu0
 rw [R8,specW_eq _ _ _ uu18 uu18 uu18,Sh,Sh,Rw,Rx] at this
 exact this
theorem wrap_u8 (b:UInt8):IntKind.i64.wrap ((b.toNat:Int))=(b.toNat:Int):=by
 have h:=b.toNat_lt
 exact wrap_of uu0 uu0
theorem impl_loop (line s:Za) (hs:(cut3 line Zd).1=s) {τ:Type} (f:List Za×Bool->τ) (g:Int->τ) (y:τ) (hg:∀ i,g i=y):∀ (m i:Nat),i+m=s.size->∀ fuel,m<fuel ->
  (runL (F68_s0 line) fuel (i:Int)).fin f g=bif (s.data.toList.drop i).all okB then y else f ([],false)
 | m,i,_,0,hf=>absurd hf (Sd _)
 | 0,i,h,fuel+1,hf=>by
  have hl:s.data.toList.length=s.size:=Q9
  have h1:decide ((i:Int)<(s.size:Int))=false:=Qq uu0
  have hst:F68_s0 line (i:Int)=.done (i:Int):=by
   simp only [F68_s0,F96,hs,h1,Qh]
  rw [Q8 uu0,runL_d _ hst]
  exact hg _
 | m+1,i,h,fuel+1,hf=>by
  have hl:s.data.toList.length=s.size:=Q9
  have h1:decide ((i:Int)<(s.size:Int))=true:=Qs uu0
  have hb:s.data.toList.drop i=s.data.toList.getD i 0 :: s.data.toList.drop (i+1):=by
   rw [Rk uu0,Qd,Qe uu0]; rfl
  have hst:F68_s0 line (i:Int)=if okB (s.data.toList.getD i 0)=false then .ret ([],false) else .next ((i+1:Nat):Int):=by
   simp only [F68_s0,F96,hs,h1,Qc,Rn,getD_list,wrap_u8]
   generalize s.data.toList.getD i 0=b
   have e:decide ((32:Int)<=(b.toNat:Int)/\(b.toNat:Int)<=126)=okB b:=by
    unfold okB
    congr 1
    exact propext ⟨fun h=>by omega,fun h=>by omega⟩
   rw [e]
   cases okB b <;> rfl
  rw [hb,Ru]
  generalize s.data.toList.getD i 0=b at hst ⊢
  by_cases hok:okB b=false
  ·rw [if_pos hok] at hst
   rw [runL_r _ hst,hok]; rfl
  ·rw [if_neg hok] at hst
   rw [runL_n _ hst,impl_loop line s hs f g y hg m (i+1) uu0 fuel uu0]
   cases ho:okB b with
   | false=>exact absurd ho hok
   | true=>rw [Sy]
theorem isE (x:Za):(x.toList==Zc.toList)=x.data.toList.isEmpty:=by
 rw [byteToList,byteToList]
 cases x.data.toList <;> rfl
theorem words_filter (s:Za):(splitS s Zb).filter (fun x=>!(x.toList==Zc.toList))=(wordsL s.data.toList).map mkB:=by
 rw [wordsL,<- splitS_one,List.filter_map,Gw]
 have e:(fun x:Za=>!(x.toList==Zc.toList))=((fun w:List UInt8=>!w.isEmpty) ∘ fun x:Za=>x.data.toList):=by
  funext x
  rw [isE]; rfl
 rw [e]
 exact ((Tv fun x _=>mkB_self x).trans (Hb _)).symm
theorem any_long:∀ ws:List (List UInt8),ws.any ((fun x:Za=>decide ((x.size:Int)>24)) ∘ mkB)=!ws.all fun w=>decide (w.length<=24)
 | []=>rfl
 | w :: ws=>by
  rw [Gi,Ru,any_long ws,Bool.not_and]
  congr 1
  have:(mkB w).size=w.length:=rfl
  show decide (((mkB w).size:Int)>24)=_
  rw [this]
  by_cases h:w.length<=24
  ·rw [Qs h,Qq uu0]; rfl
  ·rw [Qq h,Qs uu0]; rfl
theorem impl_words (line:Za):F68 line=wordsOf (cut3 line Zd).1.data.toList:=by
 generalize hs:(cut3 line Zd).1=s
 unfold F68
 have h1:=impl_loop line s hs (fun r=>r) (fun _=>bif (bif decide ((((wordsL s.data.toList).map mkB).length:Int)>8) then true else ((wordsL s.data.toList).map mkB).any fun x=>decide ((x.size:Int)>24)) then (([]:List Za),false) else ((wordsL s.data.toList).map mkB,true)) _ (fun _=>rfl) s.size 0 uu0 (Int.toNat ((s.size:Int)-0)+1) uu0
 have hf:(splitS s Zb).filter (fun x=>!F99 x)=(wordsL s.data.toList).map mkB:=words_filter s
 simp only [F96,F32,hs,hf]
 refine h1.trans ?_
 rw [R8,wordsOf,fitW,Sc,List.any_map]
 have e1:decide (((wordsL s.data.toList).length:Int)>8)=!decide ((wordsL s.data.toList).length<=8):=by
  by_cases h:(wordsL s.data.toList).length<=8
  ·rw [Qs h,Qq uu0]; rfl
  ·rw [Qq h,Qs uu0]; rfl
 rw [e1,any_long]
 cases (s.data.toList.all okB) <;> cases decide ((wordsL s.data.toList).length<=8) <;> cases ((wordsL s.data.toList).all fun w=>decide (w.length<=24)) <;> rfl
theorem words_same (line:Za):F68 line=F43 line:=(impl_words line).trans (spec_words line).symm
theorem wordsOf_len (l:List UInt8):(wordsOf l).1.length<=8:=by
 unfold wordsOf fitW
 by_cases h:(wordsL l).length<=8
 ·cases l.all okB <;> cases ((wordsL l).all fun w=>decide (w.length<=24)) <;> simp [h]
 ·rw [Qq h,Tq,Sj]
  exact Rj _
theorem words_len (line:Za):(F68 line).1.length<=8:=by
 rw [impl_words]; exact wordsOf_len _
def F137_s0 (s:Za) (at':Int):(List Za×Int×Int)->Lp (List Za×Int×Int) (List Za):=fun (out1,from'1,i40) =>
 bif (decide (i40<(s.size:Int))) then (bif (((s.data.getD i40.toNat 0).toNat:Int)==(at'%256)) then (.next ((out1++[(s.extract (Int.toNat from'1) i40.toNat)]),(i40+1),(i40+1))) else (.next (out1,from'1,(i40+1)))) else (.done (out1,from'1,i40))
def F137_j0 (s:Za) (at':Int):Lp (List Za×Int) (List Za) :=
 (runL (F137_s0 s at') (((s.size:Int)-0).toNat+1) (([]:List Za),0,0)).fin Lp.ret (fun (out1,from'1,i40)=>.done (out1,from'1))
def F137 (s:Za) (at':Int):List Za :=
 (F137_j0 s at').fin (fun r=>r) (fun (out,from')=>(out++[(s.extract from'.toNat (s.size:Int).toNat)]))
abbrev lN137_0 (s:Za):Nat×(List Za×Int×Int):=((((s.size:Int)-0).toNat+1),(([]:List Za),0,0))
abbrev lI137_0 (s:Za) (m39:Nat) (out1:List Za) (from'1:Int) (i40:Int):Prop:=Int.toNat ((s.size:Int)-i40)<m39/\(0:Int)<=from'1/\(from'1:Int)<=i40/\(out1.length:Int)<=i40/\i40<=(s.size:Int)/\(0:Int)<=from'1/\(0:Int)<=i40
abbrev lX137_0 (s:Za) (at':Int):Lp (List Za×Int×Int) (List Za):=LpX (F137_s0 s at') (lN137_0 s)
abbrev lJ137_0 (s:Za) (at':Int) (i:Nat×(List Za×Int×Int)):Prop:=LpJ (F137_s0 s at') (lN137_0 s) i (lI137_0 s i.1 i.2.1 i.2.2.1 i.2.2.2)
abbrev lH137_0 (s:Za) (at':Int) (i:Nat×(List Za×Int×Int)) (m39:Nat) (out1:List Za) (from'1:Int) (i40:Int):Prop:=LpH (F137_s0 s at') (lN137_0 s) i m39 (out1,from'1,i40) (lI137_0 s (m39+1) out1 from'1 i40)
abbrev lE137_0 (s:Za) (at':Int) (out1:List Za) (from'1:Int) (i40:Int) (out1_:List Za) (from'1_:Int) (i40_:Int) (K39:Prop):Prop:=(Rf (.string s))/\(Rf (.int .u8 (at'%256)))/\((.int .i64 from'1:Value)=.int .i64 from'1_)/\((.int .i64 i40:Value)=.int .i64 i40_)/\(Imp (.l 1 eStr out1) (.l 1 eStr out1_))/\K39
theorem un137_0 (s:Za) (at':Int) (i:Nat×(List Za×Int×Int)) (h:lJ137_0 s at' i):lH137_0 s at' i (i.1-1) i.2.1 i.2.2.1 i.2.2.2:=⟨hd1 h.1 h.2.1,hd3 h.2.1,hd2 h.2.1,h.2.2⟩
theorem bk137_0 (s:Za) (at':Int) (i:Nat×(List Za×Int×Int)) (m39:Nat) (out1:List Za) (from'1:Int) (i40:Int) (hl:m39<i.1) (e:runL (F137_s0 s at') m39 (out1,from'1,i40)=lX137_0 s at') (h:lI137_0 s m39 out1 from'1 i40):∃ j:Nat×(List Za×Int×Int),lE137_0 s at' out1 from'1 i40 j.2.1 j.2.2.1 j.2.2.2 (lJ137_0 s at' j/\j.1<i.1):=⟨(m39,(out1,from'1,i40)),rfl,rfl,rfl,rfl,Imp.refl _,⟨e,h⟩,hl⟩
theorem en137_0 (s:Za) (at':Int) (h:(0:Int)<=0/\(0:Int)<=0/\(([]:List Za).length:Int)<=0/\0<=(s.size:Int)/\(0:Int)<=0/\(0:Int)<=0):lE137_0 s at' ([]:List Za) 0 0 ([]:List Za) 0 0 (lJ137_0 s at' (lN137_0 s)):=⟨rfl,rfl,rfl,rfl,Imp.refl _,rfl,Qt _,h⟩
abbrev jI137_0 (s:Za) (at':Int) (out:List Za) (from':Int):Prop:=(0:Int)<=from'/\from'<=(s.size:Int)/\(out.length:Int)<=(s.size:Int)
abbrev jJ137_0 (s:Za) (at':Int) (j:List Za×Int):Prop:=(F137_j0 s at')=Lp.done j/\jI137_0 s at' j.1 j.2
theorem jn137_0 (s:Za) (at':Int) (out:List Za) (from':Int) (e:(F137_j0 s at')=Lp.done (out,from')) (h:jI137_0 s at' out from'):∃ j:List Za×Int,((.string s:Value)=.string s)/\((.int .i64 from':Value)=.int .i64 j.2)/\(Imp (.l 1 eStr out) (.l 1 eStr j.1))/\jJ137_0 s at' j:=⟨(out,from'),rfl,rfl,Imp.refl _,e,h⟩
theorem fi137 (s:Za) (at':Int) (r:List Za) (hF:r=(F137 s at')):(Imp (.l 1 eStr r) (.l 1 eStr (F137 s at')))/\True:=by cases hF; exact ⟨Imp.refl _,trivial⟩
def S137 (s:Za) (at':Int):Spec:=⟨[.r (.c (.v (.string s))),.r (.c (.v (.int .u8 (at'%256))))],.ow (.l 1 eStr (F137 s at')),s.size<=1048576⟩
theorem ok137 (s:Za) (at':Int):(S137 s at').ok Tryz.prog 137 :=
 fnG_ok mixed (fn:=Tryz.f137) (ct:=.seq .no (.seq (.reg [(0,.dat (.l 1 eStr ([]:List Za)))]) (.seq .no (.cut (ι:=List Za×Int) (fun j=>(fun (out:List Za) (from':Int)=>(⟨[(0,some (.v (.string s))),(5,some (.h 0 0)),(6,some (.v (vI from')))],[(0,some (.own 0 (.l 1 eStr out)))],1⟩:St)) j.1 j.2) (jJ137_0 s at') (.seqk [(5,0)] .no (.blk (.loop (ι:=Nat×(List Za×Int×Int)) (fun i=>(fun (out1:List Za) (from'1:Int) (i40:Int)=>(⟨[(0,some (.v (.string s))),(1,some (.v (.int .u8 (at'%256)))),(5,some (.h 0 0)),(6,some (.v (vI from'1))),(7,some (.v (vI i40)))],[(0,some (.own 0 (.l 1 eStr out1)))],1⟩:St)) i.2.1 i.2.2.1 i.2.2.2) (lJ137_0 s at') (fun i=>i.1) (lN137_0 s) (fun i=>(fun (out1:List Za) (from'1:Int) (i40:Int)=>(.seq (.seq .no (.cond .no .no)) (.seq (.blk (.seq .no (.cond (.seq (.reg [(6,.dat (.l 1 eStr (out1++[(s.extract (Int.toNat from'1) i40.toNat)])))]) (.reg [(1,.bnd)])) .no))) (.reg [(1,.bnd)])))) i.2.1 i.2.2.1 i.2.2.2)))) (fun j=>(fun (out:List Za) (from':Int)=>(.seq (.reg [(5,.dat (.l 1 eStr (out++[(s.extract from'.toNat (s.size:Int).toNat)])))]) .no)) j.1 j.2))))) Tryz.func137 (fun (hpre0:s.size<=1048576)=>ai (bokr 1 eStr ([]:List Za) fun _=>rfl) (ai (kn ([]:List Za) fun _=>ai (en137_0 s at' (by refine ⟨?_,?_,?_,?_,?_,?_⟩ <;> first | omega | (simp only [lens,ib] at*<;> omega))) (fun (i0:Nat×(List Za×Int×Int)) (hi0:lJ137_0 s at' i0)=>(fun (m0:Nat) (out1:List Za) (from'1:Int) (i40:Int) (hh0:lH137_0 s at' i0 m0 out1 from'1 i40)=>have hI0:=hh0.1; have hl0:=hh0.2.1; have _:=hh0.2.2.1; have _:=hh0.2.2.2; ifd (i40<(s.size:Int)) (fun h2 _=>ai (uu3:0<=i40/\i40<(s.size:Int)) (ife ((s.data.getD i40.toNat 0).toNat:Int) (at'%256) (fun h3 _=>ai (uu3:0<=from'1/\from'1<=i40/\i40<=(s.size:Int)) (ai (appr 1 eStr out1 [(s.extract (Int.toNat from'1) i40.toNat)] fun _=>rfl) (ai (uu16:(out1++[(s.extract (Int.toNat from'1) i40.toNat)]).length*16<=140737488355328) (ai (iok (i40+1) uu3) (ai (iok (i40+1) uu3) (bk137_0 s at' i0 m0 (out1++[(s.extract (Int.toNat from'1) i40.toNat)]) (i40+1) (i40+1) hl0 (runL_next hI0 (condT h2 (condT h3 rfl))) uu59)))))) (fun h3 _=>ai (iok (i40+1) uu3) (bk137_0 s at' i0 m0 out1 from'1 (i40+1) hl0 (runL_next hI0 (condT h2 (condF h3 rfl))) uu59)))) (fun h2 _=>have hD0_4:lX137_0 s at'=Lp.done (out1,from'1,i40):=runL_done hI0 (condF h2 rfl); jn137_0 s at' out1 from'1 (Tk (finD hD0_4 rfl)) uu39)) (i0.1-1) i0.2.1 i0.2.2.1 i0.2.2.2 (un137_0 s at' i0 hi0))) (fun (j:List Za×Int) (hj:jJ137_0 s at' j)=>(fun (out:List Za) (from':Int) (hJ0_5:(F137_j0 s at')=Lp.done (out,from')) (hw:jI137_0 s at' out from')=>have _:=hw.1; have _:=hw.2.1; have _:=hw.2.2; ai (uu3:0<=from'/\from'<=(s.size:Int)/\(s.size:Int)<=(s.size:Int)) (ai (appr 1 eStr out [(s.extract from'.toNat (s.size:Int).toNat)] fun _=>rfl) (ai (uu16:(out++[(s.extract from'.toNat (s.size:Int).toNat)]).length*16<=140737488355328) (fi137 s at' (out++[(s.extract from'.toNat (s.size:Int).toNat)]) (finD hJ0_5 rfl))))) j.1 j.2 hj.1 hj.2))) uu2
def F139 (n:Int) (low:Int) (high:Int):Bool :=
 (bif decide (n>=low) then decide (n<=high) else false)
def S139 (R:Bool) (n:Int) (low:Int) (high:Int):Spec:=⟨[.r (.c (.v (vI n))),.r (.c (.v (vI low))),.r (.c (.v (vI high)))],.v (.bool R),True⟩
theorem ok139 (n:Int) (low:Int) (high:Int):(S139 (F139 n low high) n low high).ok Tryz.prog 139 :=
 fnG_ok mixed (fn:=Tryz.f139) (ct:=.seq .no (.seq .no .no)) Tryz.func139 (fun (_:True)=>fiB (bif decide (n>=low) then decide (n<=high) else false) (F139 n low high) rfl) uu2
theorem as139 (n:Int) (low:Int) (high:Int):F139 n low high=(decide (low<=n/\n<=high)):=by
 simp only [F139,Bool.decide_and,bandd]
theorem oa139 (n:Int) (low:Int) (high:Int):(S139 (decide (low<=n/\n<=high)) n low high).ok Tryz.prog 139:=by
 intro hp; have h:=ok139 n low high hp; rw [as139 n low high] at h; exact h
theorem kc139a (n:Int) (low:Int) (high:Int) {K_:Prop} (k_:K_):(True)/\(Imp (.v (vI n)) (.v (vI n)))/\(Imp (.v (vI low)) (.v (vI low)))/\(Imp (.v (vI high)) (.v (vI high)))/\K_:=⟨trivial,Imp.refl _,Imp.refl _,Imp.refl _,k_⟩
abbrev kh139a (n:Int) (low:Int) (high:Int):Hint true Tryz.prog:=.call 139 (S139 (decide (low<=n/\n<=high)) n low high) (oa139 n low high) none
theorem kg139a {K_:Prop} (c_ b_:Bool) (n:Int) (low:Int) (high:Int) (k_:K_):(c_=b_->True)/\(c_=b_->Imp (.v (vI n)) (.v (vI n)))/\(c_=b_->Imp (.v (vI low)) (.v (vI low)))/\(c_=b_->Imp (.v (vI high)) (.v (vI high)))/\K_:=⟨fun _=>trivial,fun _=>Imp.refl _,fun _=>Imp.refl _,fun _=>Imp.refl _,k_⟩
def F124_s0 (s:Za):Int->Lp Int Bool:=fun i40 =>
 bif (decide (i40<(s.size:Int))) then (bif (bif (bif (!(decide (97<=(IntKind.i64.wrap ((s.data.getD i40.toNat 0).toNat:Int))/\(IntKind.i64.wrap ((s.data.getD i40.toNat 0).toNat:Int))<=122))) then (!(decide (48<=(IntKind.i64.wrap ((s.data.getD i40.toNat 0).toNat:Int))/\(IntKind.i64.wrap ((s.data.getD i40.toNat 0).toNat:Int))<=57))) else false) then (((s.data.getD i40.toNat 0).toNat:Int) != 45) else false) then (.ret false) else (.next (i40+1))) else (.done i40)
def F124 (s:Za):Bool :=
 bif (!(decide (1<=(s.size:Int)/\(s.size:Int)<=8))) then false else ((runL (F124_s0 s) (((s.size:Int)-0).toNat+1) 0).fin (fun r=>r) (fun i40=>true))
abbrev lN124_0 (s:Za):Nat×Int:=((((s.size:Int)-0).toNat+1),0)
abbrev lI124_0 (s:Za) (m39:Nat) (i40:Int):Prop:=Int.toNat ((s.size:Int)-i40)<m39/\(0:Int)<=i40
abbrev lX124_0 (s:Za):Lp Int Bool:=LpX (F124_s0 s) (lN124_0 s)
abbrev lJ124_0 (s:Za) (i:Nat×Int):Prop:=LpJ (F124_s0 s) (lN124_0 s) i (lI124_0 s i.1 i.2)
abbrev lH124_0 (s:Za) (i:Nat×Int) (m39:Nat) (i40:Int):Prop:=LpH (F124_s0 s) (lN124_0 s) i m39 i40 (lI124_0 s (m39+1) i40)
abbrev lE124_0 (s:Za) (i40:Int) (i40_:Int) (K39:Prop):Prop:=(Rf (.string s))/\((.int .i64 i40:Value)=.int .i64 i40_)/\K39
theorem un124_0 (s:Za) (i:Nat×Int) (h:lJ124_0 s i):lH124_0 s i (i.1-1) i.2:=⟨hd1 h.1 h.2.1,hd3 h.2.1,hd2 h.2.1,h.2.2⟩
theorem bk124_0 (s:Za) (i:Nat×Int) (m39:Nat) (i40:Int) (hl:m39<i.1) (e:runL (F124_s0 s) m39 i40=lX124_0 s) (h:lI124_0 s m39 i40):∃ j:Nat×Int,lE124_0 s i40 j.2 (lJ124_0 s j/\j.1<i.1):=⟨(m39,i40),rfl,rfl,⟨e,h⟩,hl⟩
theorem en124_0 (s:Za) (h:(0:Int)<=0):lE124_0 s 0 0 (lJ124_0 s (lN124_0 s)):=⟨rfl,rfl,rfl,Qt _,h⟩
def S124 (s:Za):Spec:=⟨[.r (.c (.v (.string s)))],.v (.bool (F124 s)),s.size<=1048576⟩
theorem ok124 (s:Za):(S124 s).ok Tryz.prog 124 :=
 fnG_ok mixed (fn:=Tryz.f124) (ct:=.seq .no (.seq (.seq (.reg [(2,kh139a (s.size:Int) 1 8)]) (.cond (.seq .no .no) .no)) (.seq (.seq .no (.blk (.loop (ι:=Nat×Int) (fun i=>(fun (i40:Int)=>(⟨[(0,some (.v (.string s))),(3,some (.v (vI i40)))],[],0⟩:St)) i.2) (lJ124_0 s) (fun i=>i.1) (lN124_0 s) (fun i=>(fun (i40:Int)=>(.seq (.seq .no (.cond .no .no)) (.seq (.blk (.seq (.reg [(4,kh139a (IntKind.i64.wrap ((s.data.getD i40.toNat 0).toNat:Int)) 97 122),(11,kh139a (IntKind.i64.wrap ((s.data.getD i40.toNat 0).toNat:Int)) 48 57)]) (.cond (.seq .no .no) .no))) (.reg [(1,.bnd)])))) i.2)))) (.seq .no .no)))) Tryz.func124 (fun (hpre0:s.size<=1048576)=>kc139a (s.size:Int) 1 8 (ifb (!(decide (1<=(s.size:Int)/\(s.size:Int)<=8))) (fun h1=>have _:=Qw (notET h1); fiB false (F124 s) (condT h1 rfl)) (fun h1=>have _:=Qb (notEF h1); ai (en124_0 s uu0) (fun (i0:Nat×Int) (hi0:lJ124_0 s i0)=>(fun (m0:Nat) (i40:Int) (hh0:lH124_0 s i0 m0 i40)=>have hI0:=hh0.1; have hl0:=hh0.2.1; have _:=hh0.2.2.1; have _:=hh0.2.2.2; ifd (i40<(s.size:Int)) (fun h3 _=>ai (uu0:0<=i40/\i40<(s.size:Int)) (kc139a (IntKind.i64.wrap ((s.data.getD i40.toNat 0).toNat:Int)) 97 122 (ai (fun k4:(!(decide (97<=(IntKind.i64.wrap ((s.data.getD i40.toNat 0).toNat:Int))/\(IntKind.i64.wrap ((s.data.getD i40.toNat 0).toNat:Int))<=122)))=true=>have _:=Qw (notET k4); (uu0:0<=i40/\i40<(s.size:Int))) (kg139a (!(decide (97<=(IntKind.i64.wrap ((s.data.getD i40.toNat 0).toNat:Int))/\(IntKind.i64.wrap ((s.data.getD i40.toNat 0).toNat:Int))<=122))) true (IntKind.i64.wrap ((s.data.getD i40.toNat 0).toNat:Int)) 48 57 (ai (fun k6:(bif (!(decide (97<=(IntKind.i64.wrap ((s.data.getD i40.toNat 0).toNat:Int))/\(IntKind.i64.wrap ((s.data.getD i40.toNat 0).toNat:Int))<=122))) then (!(decide (48<=(IntKind.i64.wrap ((s.data.getD i40.toNat 0).toNat:Int))/\(IntKind.i64.wrap ((s.data.getD i40.toNat 0).toNat:Int))<=57))) else false)=true=>have _:=Qw (notET (andT1 k6)); have _:=Qw (notET (andT2 k6)); (uu0:0<=i40/\i40<(s.size:Int))) (ifb (bif (bif (!(decide (97<=(IntKind.i64.wrap ((s.data.getD i40.toNat 0).toNat:Int))/\(IntKind.i64.wrap ((s.data.getD i40.toNat 0).toNat:Int))<=122))) then (!(decide (48<=(IntKind.i64.wrap ((s.data.getD i40.toNat 0).toNat:Int))/\(IntKind.i64.wrap ((s.data.getD i40.toNat 0).toNat:Int))<=57))) else false) then (((s.data.getD i40.toNat 0).toNat:Int) != 45) else false) (fun h7=>have _:=Qw (notET (andT1 (andT1 h7))); have _:=Qw (notET (andT2 (andT1 h7))); have _:=bneT (andT2 h7); fiB false (F124 s) (condF h1 (finR (runL_ret hI0 (condT h3 (condT h7 rfl))) rfl))) (fun h7=>ai (iok (i40+1) uu0) (bk124_0 s i0 m0 (i40+1) hl0 (runL_next hI0 (condT h3 (condF h7 rfl))) uu7)))))))) (fun h3 _=>have hD0_8:lX124_0 s=Lp.done i40:=runL_done hI0 (condF h3 rfl); fiB true (F124 s) (condF h1 (finD hD0_8 rfl)))) (i0.1-1) i0.2 (un124_0 s i0 hi0))))) uu2
def F123_s0 (s:Za):(Int×Int)->Lp (Int×Int) Int:=fun (n,i40) =>
 bif (decide (i40<(s.size:Int))) then (bif (!(decide (48<=(IntKind.i64.wrap ((s.data.getD i40.toNat 0).toNat:Int))/\(IntKind.i64.wrap ((s.data.getD i40.toNat 0).toNat:Int))<=57))) then (.ret (-1)) else (.next ((IntKind.i64.wrap ((IntKind.i64.wrap (n*10))+(IntKind.i64.wrap (IntKind.u8.wrap (((s.data.getD i40.toNat 0).toNat:Int)-48))))),(i40+1)))) else (.done (n,i40))
def F123 (s:Za):Int :=
 bif (bif (!(decide (1<=(s.size:Int)/\(s.size:Int)<=6))) then true else (bif decide ((s.size:Int)>1) then (((s.data.getD (Int.toNat 0) 0).toNat:Int)==48) else false)) then (-1) else ((runL (F123_s0 s) (((s.size:Int)-0).toNat+1) (0,0)).fin (fun r=>r) (fun (n,i40)=>n))
abbrev lN123_0 (s:Za):Nat×(Int×Int):=((((s.size:Int)-0).toNat+1),(0,0))
abbrev lI123_0 (s:Za) (m39:Nat) (n:Int) (i40:Int):Prop:=Int.toNat ((s.size:Int)-i40)<m39/\(0:Int)<=i40
abbrev lX123_0 (s:Za):Lp (Int×Int) Int:=LpX (F123_s0 s) (lN123_0 s)
abbrev lJ123_0 (s:Za) (i:Nat×(Int×Int)):Prop:=LpJ (F123_s0 s) (lN123_0 s) i (lI123_0 s i.1 i.2.1 i.2.2)
abbrev lH123_0 (s:Za) (i:Nat×(Int×Int)) (m39:Nat) (n:Int) (i40:Int):Prop:=LpH (F123_s0 s) (lN123_0 s) i m39 (n,i40) (lI123_0 s (m39+1) n i40)
abbrev lE123_0 (s:Za) (n:Int) (i40:Int) (n_:Int) (i40_:Int) (K39:Prop):Prop:=(Rf (.string s))/\((.int .i64 n:Value)=.int .i64 n_)/\((.int .i64 i40:Value)=.int .i64 i40_)/\K39
theorem un123_0 (s:Za) (i:Nat×(Int×Int)) (h:lJ123_0 s i):lH123_0 s i (i.1-1) i.2.1 i.2.2:=⟨hd1 h.1 h.2.1,hd3 h.2.1,hd2 h.2.1,h.2.2⟩
theorem bk123_0 (s:Za) (i:Nat×(Int×Int)) (m39:Nat) (n:Int) (i40:Int) (hl:m39<i.1) (e:runL (F123_s0 s) m39 (n,i40)=lX123_0 s) (h:lI123_0 s m39 n i40):∃ j:Nat×(Int×Int),lE123_0 s n i40 j.2.1 j.2.2 (lJ123_0 s j/\j.1<i.1):=⟨(m39,(n,i40)),rfl,rfl,rfl,⟨e,h⟩,hl⟩
theorem en123_0 (s:Za) (h:(0:Int)<=0):lE123_0 s 0 0 0 0 (lJ123_0 s (lN123_0 s)):=⟨rfl,rfl,rfl,rfl,Qt _,h⟩
def S123 (s:Za):Spec:=⟨[.r (.c (.v (.string s)))],.v (vI (F123 s)),s.size<=1048576⟩
theorem ok123 (s:Za):(S123 s).ok Tryz.prog 123 :=
 fnG_ok mixed (fn:=Tryz.f123) (ct:=.seq .no (.seq (.seq (.reg [(2,kh139a (s.size:Int) 1 6)]) (.cond (.seq .no .no) .no)) (.seq .no (.seq (.seq .no (.blk (.loop (ι:=Nat×(Int×Int)) (fun i=>(fun (n:Int) (i40:Int)=>(⟨[(0,some (.v (.string s))),(3,some (.v (vI n))),(4,some (.v (vI i40)))],[],0⟩:St)) i.2.1 i.2.2) (lJ123_0 s) (fun i=>i.1) (lN123_0 s) (fun i=>(fun (n:Int) (i40:Int)=>(.seq (.seq .no (.cond .no .no)) (.seq (.blk (.seq (.seq (.reg [(4,kh139a (IntKind.i64.wrap ((s.data.getD i40.toNat 0).toNat:Int)) 48 57)]) (.cond (.seq .no .no) .no)) .no)) (.reg [(1,.bnd)])))) i.2.1 i.2.2)))) (.seq .no .no))))) Tryz.func123 (fun (hpre0:s.size<=1048576)=>kc139a (s.size:Int) 1 6 (ai (fun k2:(decide ((s.size:Int)>1))=true=>have _:=Qb k2; (fun k1:(!(decide (1<=(s.size:Int)/\(s.size:Int)<=6)))=false=>have _:=Qb (notEF k1); (uu0:0<=(0:Int)/\(0:Int)<(s.size:Int)))) (ifb (bif (!(decide (1<=(s.size:Int)/\(s.size:Int)<=6))) then true else (bif decide ((s.size:Int)>1) then (((s.data.getD (Int.toNat 0) 0).toNat:Int)==48) else false)) (fun h3=>fiI (-1) (F123 s) (condT h3 rfl)) (fun h3=>have _:=Qb (notEF (orF1 h3)); ai (en123_0 s uu0) (fun (i0:Nat×(Int×Int)) (hi0:lJ123_0 s i0)=>(fun (m0:Nat) (n:Int) (i40:Int) (hh0:lH123_0 s i0 m0 n i40)=>have hI0:=hh0.1; have hl0:=hh0.2.1; have _:=hh0.2.2.1; have _:=hh0.2.2.2; ifd (i40<(s.size:Int)) (fun h5 _=>ai (uu0:0<=i40/\i40<(s.size:Int)) (kc139a (IntKind.i64.wrap ((s.data.getD i40.toNat 0).toNat:Int)) 48 57 (ifb (!(decide (48<=(IntKind.i64.wrap ((s.data.getD i40.toNat 0).toNat:Int))/\(IntKind.i64.wrap ((s.data.getD i40.toNat 0).toNat:Int))<=57))) (fun h6=>have _:=Qw (notET h6); fiI (-1) (F123 s) (condF h3 (finR (runL_ret hI0 (condT h5 (condT h6 rfl))) rfl))) (fun h6=>have _:=Qb (notEF h6); ai (uu0:0<=i40/\i40<(s.size:Int)) (ai (iok (i40+1) uu0) (bk123_0 s i0 m0 (IntKind.i64.wrap ((IntKind.i64.wrap (n*10))+(IntKind.i64.wrap (IntKind.u8.wrap (((s.data.getD i40.toNat 0).toNat:Int)-48))))) (i40+1) hl0 (runL_next hI0 (condT h5 (condF h6 rfl))) uu7)))))) (fun h5 _=>have hD0_7:lX123_0 s=Lp.done (n,i40):=runL_done hI0 (condF h5 rfl); fiI n (F123 s) (condF h3 (finD hD0_7 rfl)))) (i0.1-1) i0.2.1 i0.2.2 (un123_0 s i0 hi0)))))) uu2
def F138_s0 (n:Int):(Int×Int)->Lp (Int×Int) Int:=fun (out,i40) =>
 bif (decide (i40<16)) then (.next ((IntKind.i64.wrap (out*2)),(i40+1))) else (.done (out,i40))
def F138 (n:Int):Int :=
 (runL (F138_s0 n) ((16-n).toNat+1) (1,n)).fin (fun r=>r) (fun (out,i40)=>out)
abbrev lN138_0 (n:Int):Nat×(Int×Int):=(((16-n).toNat+1),(1,n))
abbrev lI138_0 (m39:Nat) (out:Int) (i40:Int):Prop:=Int.toNat (16-i40)<m39/\(0:Int)<=i40
abbrev lX138_0 (n:Int):Lp (Int×Int) Int:=LpX (F138_s0 n) (lN138_0 n)
abbrev lJ138_0 (n:Int) (i:Nat×(Int×Int)):Prop:=LpJ (F138_s0 n) (lN138_0 n) i (lI138_0 i.1 i.2.1 i.2.2)
abbrev lH138_0 (n:Int) (i:Nat×(Int×Int)) (m39:Nat) (out:Int) (i40:Int):Prop:=LpH (F138_s0 n) (lN138_0 n) i m39 (out,i40) (lI138_0 (m39+1) out i40)
abbrev lE138_0 (out:Int) (i40:Int) (out_:Int) (i40_:Int) (K39:Prop):Prop:=((.int .i64 out:Value)=.int .i64 out_)/\((.int .i64 i40:Value)=.int .i64 i40_)/\K39
theorem un138_0 (n:Int) (i:Nat×(Int×Int)) (h:lJ138_0 n i):lH138_0 n i (i.1-1) i.2.1 i.2.2:=⟨hd1 h.1 h.2.1,hd3 h.2.1,hd2 h.2.1,h.2.2⟩
theorem bk138_0 (n:Int) (i:Nat×(Int×Int)) (m39:Nat) (out:Int) (i40:Int) (hl:m39<i.1) (e:runL (F138_s0 n) m39 (out,i40)=lX138_0 n) (h:lI138_0 m39 out i40):∃ j:Nat×(Int×Int),lE138_0 out i40 j.2.1 j.2.2 (lJ138_0 n j/\j.1<i.1):=⟨(m39,(out,i40)),rfl,rfl,⟨e,h⟩,hl⟩
theorem en138_0 (n:Int) (h:(0:Int)<=n):lE138_0 1 n 1 n (lJ138_0 n (lN138_0 n)):=⟨rfl,rfl,rfl,Qt _,h⟩
def S138 (n:Int):Spec:=⟨[.r (.c (.v (vI n)))],.v (vI (F138 n)),0<=n⟩
theorem ok138 (n:Int):(S138 n).ok Tryz.prog 138 :=
 fnG_ok mixed (fn:=Tryz.f138) (ct:=.seq .no (.seq .no (.seq (.seq .no (.blk (.loop (ι:=Nat×(Int×Int)) (fun i=>(fun (out:Int) (i40:Int)=>(⟨[(3,some (.v (vI out))),(4,some (.v (vI i40)))],[],0⟩:St)) i.2.1 i.2.2) (lJ138_0 n) (fun i=>i.1) (lN138_0 n) (fun i=>(fun (out:Int) (i40:Int)=>(.seq (.seq .no (.cond .no .no)) (.seq (.blk .no) (.reg [(1,.bnd)])))) i.2.1 i.2.2)))) (.seq .no .no)))) Tryz.func138 (fun (hpre0:0<=n)=>ai (en138_0 n uu0) (fun (i0:Nat×(Int×Int)) (hi0:lJ138_0 n i0)=>(fun (m0:Nat) (out:Int) (i40:Int) (hh0:lH138_0 n i0 m0 out i40)=>have hI0:=hh0.1; have hl0:=hh0.2.1; have _:=hh0.2.2.1; have _:=hh0.2.2.2; ifd (i40<16) (fun h2 _=>ai (iok (i40+1) uu0) (bk138_0 n i0 m0 (IntKind.i64.wrap (out*2)) (i40+1) hl0 (runL_next hI0 (condT h2 rfl)) uu7)) (fun h2 _=>have hD0_3:lX138_0 n=Lp.done (out,i40):=runL_done hI0 (condF h2 rfl); fiI out (F138 n) (finD hD0_3 rfl))) (i0.1-1) i0.2.1 i0.2.2 (un138_0 n i0 hi0))) uu2
theorem g138_0 (n:Int):0<=n->n<=16->1<=(F138 n)/\(F138 n)<=65536:=by
 intro h1 h2; have h3:n=0\/n=1\/n=2\/n=3\/n=4\/n=5\/n=6\/n=7\/n=8\/n=9\/n=10\/n=11\/n=12\/n=13\/n=14\/n=15\/n=16:=by omega
 rcases h3 with rfl | rfl | rfl | rfl | rfl | rfl | rfl | rfl | rfl | rfl | rfl | rfl | rfl | rfl | rfl | rfl | rfl <;> exact Qb rfl
def F38_s0 (list:List Za) (s:Za):Int->Lp Int Bool:=fun i40 =>
 bif (decide (i40<(list.length:Int))) then (bif ((list.getD i40.toNat default).toList==s.toList) then (.ret true) else (.next (i40+1))) else (.done i40)
def F38 (list:List Za) (s:Za):Bool :=
 (runL (F38_s0 list s) (((list.length:Int)-0).toNat+1) 0).fin (fun r=>r) (fun i40=>false)
abbrev lN38_0 (list:List Za):Nat×Int:=((((list.length:Int)-0).toNat+1),0)
abbrev lI38_0 (list:List Za) (m39:Nat) (i40:Int):Prop:=Int.toNat ((list.length:Int)-i40)<m39/\(0:Int)<=i40
abbrev lX38_0 (list:List Za) (s:Za):Lp Int Bool:=LpX (F38_s0 list s) (lN38_0 list)
abbrev lJ38_0 (list:List Za) (s:Za) (i:Nat×Int):Prop:=LpJ (F38_s0 list s) (lN38_0 list) i (lI38_0 list i.1 i.2)
abbrev lH38_0 (list:List Za) (s:Za) (i:Nat×Int) (m39:Nat) (i40:Int):Prop:=LpH (F38_s0 list s) (lN38_0 list) i m39 i40 (lI38_0 list (m39+1) i40)
abbrev lE38_0 (list:List Za) (s:Za) (i40:Int) (i40_:Int) (K39:Prop):Prop:=(Rf (.string s))/\((.int .i64 i40:Value)=.int .i64 i40_)/\(Im (.l 1 eStr list))/\K39
theorem un38_0 (list:List Za) (s:Za) (i:Nat×Int) (h:lJ38_0 list s i):lH38_0 list s i (i.1-1) i.2:=⟨hd1 h.1 h.2.1,hd3 h.2.1,hd2 h.2.1,h.2.2⟩
theorem bk38_0 (list:List Za) (s:Za) (i:Nat×Int) (m39:Nat) (i40:Int) (hl:m39<i.1) (e:runL (F38_s0 list s) m39 i40=lX38_0 list s) (h:lI38_0 list m39 i40):∃ j:Nat×Int,lE38_0 list s i40 j.2 (lJ38_0 list s j/\j.1<i.1):=⟨(m39,i40),rfl,rfl,Imp.refl _,⟨e,h⟩,hl⟩
theorem en38_0 (list:List Za) (s:Za) (h:(0:Int)<=0):lE38_0 list s 0 0 (lJ38_0 list s (lN38_0 list)):=⟨rfl,rfl,Imp.refl _,rfl,Qt _,h⟩
def S38 (list:List Za) (s:Za):Spec:=⟨[.r (.c (.l 1 eStr list)),.r (.c (.v (.string s)))],.v (.bool (F38 list s)),True⟩
theorem ok38 (list:List Za) (s:Za):(S38 list s).ok Tryz.prog 38 :=
 fnG_ok mixed (fn:=Tryz.f38) (ct:=.seqk [(0,0)] .no (.seq (.seqk [(0,0)] .no (.blk (.loop (ι:=Nat×Int) (fun i=>(fun (i40:Int)=>(⟨[(0,some (.h 0 0)),(1,some (.v (.string s))),(5,some (.v (vI i40)))],[(0,some (.shr none (.l 1 eStr list)))],1⟩:St)) i.2) (lJ38_0 list s) (fun i=>i.1) (lN38_0 list) (fun i=>(fun (i40:Int)=>(.seq (.seq .no (.cond .no .no)) (.seq (.blk (.seq .no (.cond (.seq .no .no) .no))) (.reg [(1,.bnd)])))) i.2)))) (.seq .no .no))) Tryz.func38 (fun (_:True)=>kn list fun _=>kn list fun _=>ai (en38_0 list s uu0) (fun (i0:Nat×Int) (hi0:lJ38_0 list s i0)=>(fun (m0:Nat) (i40:Int) (hh0:lH38_0 list s i0 m0 i40)=>have hI0:=hh0.1; have hl0:=hh0.2.1; have _:=hh0.2.2.1; have _:=hh0.2.2.2; ifd (i40<(list.length:Int)) (fun h2 _=>ai (uu0:ib i40 list) (ifb ((list.getD i40.toNat default).toList==s.toList) (fun h3=>fiB true (F38 list s) (finR (runL_ret hI0 (condT h2 (condT h3 rfl))) rfl)) (fun h3=>ai (iok (i40+1) uu0) (bk38_0 list s i0 m0 (i40+1) hl0 (runL_next hI0 (condT h2 (condF h3 rfl))) uu7)))) (fun h2 _=>have hD0_4:lX38_0 list s=Lp.done i40:=runL_done hI0 (condF h2 rfl); fiB false (F38 list s) (finD hD0_4 rfl))) (i0.1-1) i0.2 (un38_0 list s i0 hi0))) uu2
def F140:List Za :=
 Xz
theorem fi140 (r:List Za) (hF:r=F140):(Imp (.l 1 eStr r) (.l 1 eStr F140))/\True:=by cases hF; exact ⟨Imp.refl _,trivial⟩
def S140:Spec:=⟨[],.ow (.l 1 eStr F140),True⟩
theorem ok140:(S140).ok Tryz.prog 140 :=
 fnG_ok mixed (fn:=Tryz.f140) (ct:=.seq .no (.seq (.reg [(0,.dat (.l 1 eStr Xz))]) .no)) Tryz.func140 (fun (_:True)=>ai (bokr 1 eStr Xz fun _=>rfl) (fi140 Xz rfl)) uu2
theorem mkB_ext (s:Za) (a b:Nat):mkB ((s.data.toList.drop a).take (b-a))=s.extract a b:=by
 refine ba_ext ?_
 rw [mkB_data,Ge,Gt,Tj]
theorem cutS_end (s:Za) (c:UInt8) (out:List Za) (f:Int):F137_s0 s (c.toNat:Int) (out,f,(s.size:Int))=.done (out,f,(s.size:Int)):=by
 simp only [F137_s0,Qq (show ¬ (s.size:Int)<(s.size:Int) by omega),Qh]
theorem cutS_mid (s:Za) (c:UInt8) (out:List Za) (f i:Nat) (hi:i<s.size) (b:UInt8) (hb:s.data.toList.getD i 0=b):F137_s0 s (c.toNat:Int) (out,(f:Int),(i:Int)) =
  if b=c then .next (out++[s.extract f i],((i+1:Nat):Int),((i+1:Nat):Int)) else .next (out,(f:Int),((i+1:Nat):Int)):=by
 have hc:((c.toNat:Int)%256)=(c.toNat:Int):=by have:=c.toNat_lt; omega
 simp only [F137_s0,Qs (show (i:Int)<(s.size:Int) by omega),Qc,Rn,getD_list,hb,hc,u8_eq]
 by_cases h:b=c
 ·rw [Qs h,if_pos h]; rfl
 ·rw [Qq h,if_neg h]; rfl
theorem cutS_loop (s:Za) (c:UInt8):∀ (m i f:Nat) (out:List Za),i+m=s.size->f<=i->c ∉ (s.data.toList.drop f).take (i-f)->∀ fuel,m<fuel ->
  ((runL (F137_s0 s (c.toNat:Int)) fuel (out,(f:Int),(i:Int))).fin Lp.ret (fun (out1,from'1,i40)=>.done (out1,from'1))).fin (fun r=>r) (fun (out,from')=>out++[s.extract from'.toNat (s.size:Int).toNat])=out++(splitL c (s.data.toList.drop f)).map mkB
 | m,i,f,out,_,_,_,0,hf=>absurd hf (Sd _)
 | 0,i,f,out,h,hfi,hc,fuel+1,hf=>by
  have hl:s.data.toList.length=s.size:=Q9
  obtain rfl:i=s.size:=by omega
  rw [runL_d _ (cutS_end s c out f)]
  have e:(s.data.toList.drop f).take (s.size-f)=s.data.toList.drop f:=Ss (by rw [To]; omega)
  rw [e] at hc
  rw [splitL_none hc,Rb,Hd,<- e,mkB_ext]
  rfl
 | m+1,i,f,out,h,hfi,hc,fuel+1,hf=>by
  have hl:s.data.toList.length=s.size:=Q9
  have hb:s.data.toList.drop i=s.data.toList.getD i 0 :: s.data.toList.drop (i+1):=by
   rw [Rk uu0,Qd,Qe uu0]; rfl
  have hw:s.data.toList.drop f=(s.data.toList.drop f).take (i-f)++s.data.toList.drop i:=by
   have:=(Rz (i-f) (s.data.toList.drop f)).symm
   rw [Tx,show f+(i-f)=i by omega] at this
   exact this
  have h1:=cutS_mid s c out f i uu0 _ rfl
  generalize hbb:s.data.toList.getD i 0=b at h1 hb
  by_cases hbc:b=c
  ·rw [if_pos hbc] at h1
   rw [runL_n _ h1,cutS_loop s c m (i+1) (i+1) _ uu0 (Qp _) (by rw [Gv,He]; exact Rd) fuel uu0]
   rw [hw,hb,hbc,splitL_app _ hc,Rb,mkB_ext,Q3]
   rfl
  ·rw [if_neg hbc] at h1
   have hc':c ∉ (s.data.toList.drop f).take (i+1-f):=by
    have e:(s.data.toList.drop f).take (i+1-f)=(s.data.toList.drop f).take (i-f)++[b]:=by
     have hg:s.data.toList[i]?=some b:=by
      rw [Qd,Qe uu0] at hbb
      rw [Qe uu0]
      exact Qg some hbb
     rw [show i+1-f=(i-f)+1 by omega,List.take_add_one,Rt,show f+(i-f)=i by omega,hg]
     rfl
    rw [e]
    intro hm
    rcases Q1.1 hm with h2 | h2
    ·exact hc h2
    ·exact hbc (Qu.1 h2).symm
   rw [runL_n _ h1]
   exact cutS_loop s c m (i+1) f out uu0 uu0 hc' fuel uu0
theorem specCut_eq (s:Za) (c:UInt8):F137 s (c.toNat:Int)=(splitL c s.data.toList).map mkB:=by
 have:=cutS_loop s c s.size 0 0 [] uu0 (Qp _) (by rw [Gv,He]; exact Rd) (Int.toNat ((s.size:Int)-0)+1) uu0
 rw [R8,Sh] at this
 exact this
theorem splitS_mk (s:Za) (c:UInt8):splitS s ⟨#[c]⟩=(splitL c s.data.toList).map mkB:=by
 rw [<- splitS_one,Gw]
 exact ((Tv fun x _=>mkB_self x).trans (Hb _)).symm
theorem specCut_split (s:Za) (c:UInt8):F137 s (c.toNat:Int)=splitS s ⟨#[c]⟩:=(specCut_eq s c).trans (splitS_mk s c).symm
theorem cutS_any (s:Za) (a:Int):∃ c:UInt8,F137 s a=(splitL c s.data.toList).map mkB:=by
 refine ⟨UInt8.ofNat (a%256).toNat,?_⟩
 rw [<- specCut_eq]
 have h:((UInt8.ofNat (a%256).toNat).toNat:Int)%256=a%256:=by
  rw [UInt8.toNat_ofNat']
  omega
 have e:F137_s0 s a=F137_s0 s ((UInt8.ofNat (a%256).toNat).toNat:Int):=by
  funext ⟨o,f,i⟩
  simp only [F137_s0,h]
 unfold F137 F137_j0
 rw [e]
theorem splitL_le (c:UInt8):∀ (l:List UInt8),∀ w∈splitL c l,w.length<=l.length
 | [],w,h=>by
  rw [splitL,Qu] at h; rw [h]; exact Qp _
 | b :: l,w,h=>by
  have ih:=splitL_le c l
  rw [splitL] at h
  by_cases hb:b=c
  ·rw [if_pos hb] at h
   rcases Qr.1 h with rfl | h
   ·exact Rj _
   ·exact Nat.le_succ_of_le (ih w h)
  ·rw [if_neg hb] at h
   cases hs:splitL c l with
   | nil =>
    rw [hs] at h
    rw [Qu] at h; rw [h]; exact G8 (Rj _)
   | cons p ps =>
    rw [hs] at h ih
    rcases Qr.1 h with rfl | h
    ·exact G8 (ih p Ql)
    ·exact Nat.le_succ_of_le (ih w (Qj _ h))
theorem getD_mk_le (ws:List (List UInt8)) (n:Nat) (h:∀ w∈ws,w.length<=n) (k:Nat):(((ws.map mkB).getD k default:Za)).size<=n:=by
 by_cases hk:k<ws.length
 ·rw [Qd,Qe (by simpa using hk),List.getElem_map]
  exact h _ (G7 hk)
 ·rw [getD_ge _ (by simpa using hk)]
  exact Rj _
theorem cutS_sz (s:Za) (a:Int) (h:s.size<=1048576) (k:Nat):(((F137 s a).getD k default:Za)).size<=1048576:=by
 obtain ⟨c,e⟩:=cutS_any s a
 rw [e]
 refine getD_mk_le _ _ (fun w hw=>?_) k
 have:=splitL_le c _ w hw
 have hl:s.data.toList.length=s.size:=Q9
 omega
theorem kc123 (s:Za) {K_:Prop} (p0_:s.size<=1048576) (k_:K_):(s.size<=1048576)/\(Imp (.v (.string s)) (.v (.string s)))/\K_:=⟨p0_,Imp.refl _,k_⟩
abbrev kh123 (s:Za):Hint true Tryz.prog:=.call 123 (S123 s) (ok123 s) none
def F126 (s:Za) (low:Int) (high:Int):Bool :=
 (decide (low<=(F123 s)/\(F123 s)<=high))
def S126 (R:Bool) (s:Za) (low:Int) (high:Int):Spec:=⟨[.r (.c (.v (.string s))),.r (.c (.v (vI low))),.r (.c (.v (vI high)))],.v (.bool R),s.size<=1048576⟩
theorem ok126 (s:Za) (low:Int) (high:Int):(S126 (F126 s low high) s low high).ok Tryz.prog 126 :=
 fnG_ok mixed (fn:=Tryz.f126) (ct:=.seq .no (.seq (.reg [(1,kh123 s),(4,kh139a (F123 s) low high)]) .no)) Tryz.func126 (fun (hpre0:s.size<=1048576)=>kc123 s uu0 (kc139a (F123 s) low high (fiB (decide (low<=(F123 s)/\(F123 s)<=high)) (F126 s low high) rfl))) uu2
theorem as126 (s:Za) (low:Int) (high:Int):F126 s low high=(decide (low<=F123 s/\F123 s<=high)):=by
 rfl
theorem oa126 (s:Za) (low:Int) (high:Int):(S126 (decide (low<=F123 s/\F123 s<=high)) s low high).ok Tryz.prog 126:=by
 intro hp; have h:=ok126 s low high hp; rw [as126 s low high] at h; exact h
theorem kc137 (s:Za) (at':Int) {K_:Prop} (p0_:s.size<=1048576) (q0_:s.size<=1048576) (k_:(∀ k:Nat,((F137 s at').getD k default).size<=1048576)->K_):(s.size<=1048576)/\(Imp (.v (.string s)) (.v (.string s)))/\(Imp (.v (.int .u8 at')) (.v (.int .u8 at')))/\K_:=⟨p0_,Imp.refl _,Imp.refl _,k_ (cutS_sz s at' q0_)⟩
abbrev kh137 (s:Za) (at':Int):Hint true Tryz.prog:=.call 137 (S137 s at') (ok137 s at') none
theorem kg126a {K_:Prop} (c_ b_:Bool) (s:Za) (low:Int) (high:Int) (p_:c_=b_->s.size<=1048576) (k_:K_):(c_=b_->s.size<=1048576)/\(c_=b_->Imp (.v (.string s)) (.v (.string s)))/\(c_=b_->Imp (.v (vI low)) (.v (vI low)))/\(c_=b_->Imp (.v (vI high)) (.v (vI high)))/\K_:=⟨p_,fun _=>Imp.refl _,fun _=>Imp.refl _,fun _=>Imp.refl _,k_⟩
abbrev kh126a (s:Za) (low:Int) (high:Int):Hint true Tryz.prog:=.call 126 (S126 (decide (low<=F123 s/\F123 s<=high)) s low high) (oa126 s low high) none
def F120 (s:Za):Int :=
 bif (bif (bif (((F137 s 46).length:Int) != 2) then true else (!(decide (0<=F123 ((F137 s 46).getD (Int.toNat 0) default)/\F123 ((F137 s 46).getD (Int.toNat 0) default)<=255)))) then true else (!(decide (0<=F123 ((F137 s 46).getD (Int.toNat 1) default)/\F123 ((F137 s 46).getD (Int.toNat 1) default)<=255)))) then (-1) else (IntKind.i64.wrap ((IntKind.i64.wrap (256*(F123 ((F137 s 46).getD (Int.toNat 0) default))))+(F123 ((F137 s 46).getD (Int.toNat 1) default))))
def S120 (s:Za):Spec:=⟨[.r (.c (.v (.string s)))],.v (vI (F120 s)),s.size<=1048576⟩
theorem ok120 (s:Za):(S120 s).ok Tryz.prog 120 :=
 fnG_ok mixed (fn:=Tryz.f120) (ct:=.seq .no (.seq (.reg [(1,kh137 s 46)]) (.seq (.seq (.reg [(7,kh126a ((F137 s 46).getD (Int.toNat 0) default) 0 255),(14,kh126a ((F137 s 46).getD (Int.toNat 1) default) 0 255)]) (.cond (.seq .no .no) .no)) (.seq (.reg [(3,kh123 ((F137 s 46).getD (Int.toNat 0) default)),(8,kh123 ((F137 s 46).getD (Int.toNat 1) default))]) .no)))) Tryz.func120 (fun (hpre0:s.size<=1048576)=>kc137 s 46 uu0 uu0 (fun gv1=>ai (fun k2:(((F137 s 46).length:Int) != 2)=false=>have _:=bneF k2; (uu0:ib 0 (F137 s 46))) (kg126a (((F137 s 46).length:Int) != 2) false ((F137 s 46).getD (Int.toNat 0) default) 0 255 (fun k3=>have _:=bneF k3; uu40) (ai (fun k4:(bif (((F137 s 46).length:Int) != 2) then true else (!(decide (0<=F123 ((F137 s 46).getD (Int.toNat 0) default)/\F123 ((F137 s 46).getD (Int.toNat 0) default)<=255))))=false=>have _:=bneF (orF1 k4); have _:=Qb (notEF (orF2 k4)); (uu0:ib 1 (F137 s 46))) (kg126a (bif (((F137 s 46).length:Int) != 2) then true else (!(decide (0<=F123 ((F137 s 46).getD (Int.toNat 0) default)/\F123 ((F137 s 46).getD (Int.toNat 0) default)<=255)))) false ((F137 s 46).getD (Int.toNat 1) default) 0 255 (fun k5=>have _:=bneF (orF1 k5); have _:=Qb (notEF (orF2 k5)); uu40) (ifb (bif (bif (((F137 s 46).length:Int) != 2) then true else (!(decide (0<=F123 ((F137 s 46).getD (Int.toNat 0) default)/\F123 ((F137 s 46).getD (Int.toNat 0) default)<=255)))) then true else (!(decide (0<=F123 ((F137 s 46).getD (Int.toNat 1) default)/\F123 ((F137 s 46).getD (Int.toNat 1) default)<=255)))) (fun h6=>fiI (-1) (F120 s) (condT h6 rfl)) (fun h6=>have _:=bneF (orF1 (orF1 h6)); have _:=Qb (notEF (orF2 (orF1 h6))); have _:=Qb (notEF (orF2 h6)); ai (uu0:ib 0 (F137 s 46)) (kc123 ((F137 s 46).getD (Int.toNat 0) default) uu40 (ai (uu0:ib 1 (F137 s 46)) (kc123 ((F137 s 46).getD (Int.toNat 1) default) uu40 (fiI (IntKind.i64.wrap ((IntKind.i64.wrap (256*(F123 ((F137 s 46).getD (Int.toNat 0) default))))+(F123 ((F137 s 46).getD (Int.toNat 1) default)))) (F120 s) (condF h6 rfl)))))))))))) uu2
theorem kc140 {K_:Prop} (k_:K_):(True)/\K_:=⟨trivial,k_⟩
abbrev kh140:Hint true Tryz.prog:=.call 140 (S140) (ok140) none
theorem kc38 (list:List Za) (s:Za) {K_:Prop} (k_:K_):(True)/\(Imp (.l 1 eStr list) (.l 1 eStr list))/\(Imp (.v (.string s)) (.v (.string s)))/\K_:=⟨trivial,Imp.refl _,Imp.refl _,k_⟩
abbrev kh38 (list:List Za) (s:Za):Hint true Tryz.prog:=.call 38 (S38 list s) (ok38 list s) none
def F125_s0 (s:Za):Int->Lp Int Bool:=fun i40 =>
 bif (decide (i40<((F137 s 44).length:Int))) then (bif (bif (!(F38 F140 ((F137 s 44).getD i40.toNat default))) then true else (bif decide (i40>0) then (!(Op.bytesLess ((F137 s 44).getD (i40-1).toNat default).toList ((F137 s 44).getD i40.toNat default).toList)) else false)) then (.ret false) else (.next (i40+1))) else (.done i40)
def F125 (s:Za):Bool :=
 bif (bif (s.toList==Zt.toList) then true else (s.toList==Zu.toList)) then true else ((runL (F125_s0 s) ((((F137 s 44).length:Int)-0).toNat+1) 0).fin (fun r=>r) (fun i40=>true))
abbrev lN125_0 (s:Za):Nat×Int:=(((((F137 s 44).length:Int)-0).toNat+1),0)
abbrev lI125_0 (s:Za) (m39:Nat) (i40:Int):Prop:=Int.toNat (((F137 s 44).length:Int)-i40)<m39/\(0:Int)<=i40
abbrev lX125_0 (s:Za):Lp Int Bool:=LpX (F125_s0 s) (lN125_0 s)
abbrev lJ125_0 (s:Za) (i:Nat×Int):Prop:=LpJ (F125_s0 s) (lN125_0 s) i (lI125_0 s i.1 i.2)
abbrev lH125_0 (s:Za) (i:Nat×Int) (m39:Nat) (i40:Int):Prop:=LpH (F125_s0 s) (lN125_0 s) i m39 i40 (lI125_0 s (m39+1) i40)
abbrev lE125_0 (s:Za) (i40:Int) (i40_:Int) (K39:Prop):Prop:=((.int .i64 i40:Value)=.int .i64 i40_)/\(Im (.l 1 eStr (F137 s 44)))/\K39
theorem un125_0 (s:Za) (i:Nat×Int) (h:lJ125_0 s i):lH125_0 s i (i.1-1) i.2:=⟨hd1 h.1 h.2.1,hd3 h.2.1,hd2 h.2.1,h.2.2⟩
theorem bk125_0 (s:Za) (i:Nat×Int) (m39:Nat) (i40:Int) (hl:m39<i.1) (e:runL (F125_s0 s) m39 i40=lX125_0 s) (h:lI125_0 s m39 i40):∃ j:Nat×Int,lE125_0 s i40 j.2 (lJ125_0 s j/\j.1<i.1):=⟨(m39,i40),rfl,Imp.refl _,⟨e,h⟩,hl⟩
theorem en125_0 (s:Za) (h:(0:Int)<=0):lE125_0 s 0 0 (lJ125_0 s (lN125_0 s)):=⟨rfl,Imp.refl _,rfl,Qt _,h⟩
def S125 (s:Za):Spec:=⟨[.r (.c (.v (.string s)))],.v (.bool (F125 s)),s.size<=1048576⟩
theorem ok125 (s:Za):(S125 s).ok Tryz.prog 125 :=
 fnG_ok mixed (fn:=Tryz.f125) (ct:=.seq .no (.seq (.seq .no (.cond (.seq .no .no) .no)) (.seq (.reg [(1,kh137 s 44)]) (.seq (.seqk [(3,0)] .no (.blk (.loop (ι:=Nat×Int) (fun i=>(fun (i40:Int)=>(⟨[(3,some (.h 0 0)),(4,some (.v (vI i40)))],[(0,some (.own 0 (.l 1 eStr (F137 s 44))))],1⟩:St)) i.2) (lJ125_0 s) (fun i=>i.1) (lN125_0 s) (fun i=>(fun (i40:Int)=>(.seq (.seq .no (.cond .no .no)) (.seq (.blk (.seq (.reg [(0,kh140),(5,kh38 F140 ((F137 s 44).getD i40.toNat default)),(13,.bnd)]) (.cond (.seq .no .no) .no))) (.reg [(1,.bnd)])))) i.2)))) (.seq .no .no))))) Tryz.func125 (fun (hpre0:s.size<=1048576)=>ifb (bif (s.toList==Zt.toList) then true else (s.toList==Zu.toList)) (fun h1=>fiB true (F125 s) (condT h1 rfl)) (fun h1=>have _:(s.toList==Zt.toList)=false:=(orF1 h1); have _:(s.toList==Zu.toList)=false:=(orF2 h1); kc137 s 44 uu0 uu0 (fun gv2=>kn (F137 s 44) fun _=>ai (en125_0 s uu0) (fun (i0:Nat×Int) (hi0:lJ125_0 s i0)=>(fun (m0:Nat) (i40:Int) (hh0:lH125_0 s i0 m0 i40)=>have hI0:=hh0.1; have hl0:=hh0.2.1; have _:=hh0.2.2.1; have _:=hh0.2.2.2; ifd (i40<((F137 s 44).length:Int)) (fun h4 _=>kc140 (ai (uu0:ib i40 (F137 s 44)) (kc38 F140 ((F137 s 44).getD i40.toNat default) (ai (fun k6:(decide (i40>0))=true=>have _:=Qb k6; (fun k5:(!(F38 F140 ((F137 s 44).getD i40.toNat default)))=false=>iok (i40-1) uu0)) (ai (fun k8:(decide (i40>0))=true=>have _:=Qb k8; (fun k7:(!(F38 F140 ((F137 s 44).getD i40.toNat default)))=false=>(uu0:ib (i40-1) (F137 s 44)))) (ai (fun k10:(decide (i40>0))=true=>have _:=Qb k10; (fun k9:(!(F38 F140 ((F137 s 44).getD i40.toNat default)))=false=>(uu0:ib i40 (F137 s 44)))) (ifb (bif (!(F38 F140 ((F137 s 44).getD i40.toNat default))) then true else (bif decide (i40>0) then (!(Op.bytesLess ((F137 s 44).getD (i40-1).toNat default).toList ((F137 s 44).getD i40.toNat default).toList)) else false)) (fun h11=>fiB false (F125 s) (condF h1 (finR (runL_ret hI0 (condT h4 (condT h11 rfl))) rfl))) (fun h11=>ai (iok (i40+1) uu0) (bk125_0 s i0 m0 (i40+1) hl0 (runL_next hI0 (condT h4 (condF h11 rfl))) uu7))))))))) (fun h4 _=>have hD0_12:lX125_0 s=Lp.done i40:=runL_done hI0 (condF h4 rfl); fiB true (F125 s) (condF h1 (finD hD0_12 rfl)))) (i0.1-1) i0.2 (un125_0 s i0 hi0))))) uu2
theorem kc120 (s:Za) {K_:Prop} (p0_:s.size<=1048576) (k_:K_):(s.size<=1048576)/\(Imp (.v (.string s)) (.v (.string s)))/\K_:=⟨p0_,Imp.refl _,k_⟩
theorem kg120 {K_:Prop} (c_ b_:Bool) (s:Za) (p_:c_=b_->s.size<=1048576) (k_:K_):(c_=b_->s.size<=1048576)/\(c_=b_->Imp (.v (.string s)) (.v (.string s)))/\K_:=⟨p_,fun _=>Imp.refl _,k_⟩
abbrev kh120 (s:Za):Hint true Tryz.prog:=.call 120 (S120 s) (ok120 s) none
theorem kc138 (n:Int) {K_:Prop} (p0_:0<=n) (q0_:0<=n) (q1_:n<=16) (k_:(1<=(F138 n)/\(F138 n)<=65536)->(0<=n->n<=16->1<=(F138 n)/\(F138 n)<=65536)->K_):(0<=n)/\(Imp (.v (vI n)) (.v (vI n)))/\K_:=⟨p0_,Imp.refl _,k_ (g138_0 n q0_ q1_) (g138_0 n)⟩
abbrev kh138 (n:Int):Hint true Tryz.prog:=.call 138 (S138 n) (ok138 n) none
def F118 (s:Za):Int×Int :=
 bif (bif (bif (((F137 s 47).length:Int) != 2) then true else decide ((F120 ((F137 s 47).getD (Int.toNat 0) default))<0)) then true else (!(decide (0<=F123 ((F137 s 47).getD (Int.toNat 1) default)/\F123 ((F137 s 47).getD (Int.toNat 1) default)<=16)))) then ((-1),0) else (bif (((F120 ((F137 s 47).getD (Int.toNat 0) default)).tmod (F138 (F123 ((F137 s 47).getD (Int.toNat 1) default)))) != 0) then ((-1),0) else ((F120 ((F137 s 47).getD (Int.toNat 0) default)),(F138 (F123 ((F137 s 47).getD (Int.toNat 1) default)))))
theorem fi118 (s:Za) (r:Int×Int) (hF:r=(F118 s)):((.int .i64 r.1:Value)=.int .i64 (F118 s).1)/\((.int .i64 r.2:Value)=.int .i64 (F118 s).2)/\True:=by cases hF; exact ⟨rfl,rfl,trivial⟩
def S118 (s:Za):Spec:=⟨[.r (.c (.v (.string s)))],.tu [.v (vI (F118 s).1),.v (vI (F118 s).2)],s.size<=1048576⟩
theorem ok118 (s:Za):(S118 s).ok Tryz.prog 118 :=
 fnG_ok mixed (fn:=Tryz.f118) (ct:=.seq .no (.seq (.reg [(1,kh137 s 47)]) (.seq (.seq (.reg [(7,kh120 ((F137 s 47).getD (Int.toNat 0) default)),(14,kh126a ((F137 s 47).getD (Int.toNat 1) default) 0 16)]) (.cond (.seq .no .no) .no)) (.seq (.reg [(3,kh120 ((F137 s 47).getD (Int.toNat 0) default))]) (.seq (.reg [(3,kh123 ((F137 s 47).getD (Int.toNat 1) default)),(4,kh138 (F123 ((F137 s 47).getD (Int.toNat 1) default)))]) (.seq (.seq .no (.cond (.seq .no .no) .no)) (.seq .no .no))))))) Tryz.func118 (fun (hpre0:s.size<=1048576)=>kc137 s 47 uu0 uu0 (fun gv1=>ai (fun k2:(((F137 s 47).length:Int) != 2)=false=>have _:=bneF k2; (uu0:ib 0 (F137 s 47))) (kg120 (((F137 s 47).length:Int) != 2) false ((F137 s 47).getD (Int.toNat 0) default) (fun k3=>have _:=bneF k3; uu41) (ai (fun k4:(bif (((F137 s 47).length:Int) != 2) then true else decide ((F120 ((F137 s 47).getD (Int.toNat 0) default))<0))=false=>have _:=bneF (orF1 k4); have _:=Qw (orF2 k4); (uu0:ib 1 (F137 s 47))) (kg126a (bif (((F137 s 47).length:Int) != 2) then true else decide ((F120 ((F137 s 47).getD (Int.toNat 0) default))<0)) false ((F137 s 47).getD (Int.toNat 1) default) 0 16 (fun k5=>have _:=bneF (orF1 k5); have _:=Qw (orF2 k5); uu41) (ifb (bif (bif (((F137 s 47).length:Int) != 2) then true else decide ((F120 ((F137 s 47).getD (Int.toNat 0) default))<0)) then true else (!(decide (0<=F123 ((F137 s 47).getD (Int.toNat 1) default)/\F123 ((F137 s 47).getD (Int.toNat 1) default)<=16)))) (fun h6=>fi118 s ((-1),0) (condT h6 rfl)) (fun h6=>have _:=bneF (orF1 (orF1 h6)); have _:=Qw (orF2 (orF1 h6)); have _:=Qb (notEF (orF2 h6)); ai (uu0:ib 0 (F137 s 47)) (kc120 ((F137 s 47).getD (Int.toNat 0) default) uu41 (ai (uu0:ib 1 (F137 s 47)) (kc123 ((F137 s 47).getD (Int.toNat 1) default) uu41 (kc138 (F123 ((F137 s 47).getD (Int.toNat 1) default)) uu0 uu0 uu0 (fun gv7 gv8=>ai (uu0:¬ (F138 (F123 ((F137 s 47).getD (Int.toNat 1) default)))=0) (ifn ((F120 ((F137 s 47).getD (Int.toNat 0) default)).tmod (F138 (F123 ((F137 s 47).getD (Int.toNat 1) default)))) 0 (fun h9 _=>fi118 s ((-1),0) (condF h6 (condT h9 rfl))) (fun h9 _=>fi118 s ((F120 ((F137 s 47).getD (Int.toNat 0) default)),(F138 (F123 ((F137 s 47).getD (Int.toNat 1) default)))) (condF h6 (condF h9 rfl)))))))))))))))) uu2
theorem kc118 (s:Za) {K_:Prop} (p0_:s.size<=1048576) (k_:K_):(s.size<=1048576)/\(Imp (.v (.string s)) (.v (.string s)))/\K_:=⟨p0_,Imp.refl _,k_⟩
abbrev kh118 (s:Za):Hint true Tryz.prog:=.call 118 (S118 s) (ok118 s) none
def F127 (s:Za):Bool :=
 decide ((F118 s).1>=0)
def S127 (s:Za):Spec:=⟨[.r (.c (.v (.string s)))],.v (.bool (F127 s)),s.size<=1048576⟩
theorem ok127 (s:Za):(S127 s).ok Tryz.prog 127 :=
 fnG_ok mixed (fn:=Tryz.f127) (ct:=.seq .no (.seq (.reg [(1,kh118 s)]) (.seq .no .no))) Tryz.func127 (fun (hpre0:s.size<=1048576)=>kc118 s uu0 (fiB (decide ((F118 s).1>=0)) (F127 s) rfl)) uu2
theorem kg124 {K_:Prop} (c_ b_:Bool) (s:Za) (p_:c_=b_->s.size<=1048576) (k_:K_):(c_=b_->s.size<=1048576)/\(c_=b_->Imp (.v (.string s)) (.v (.string s)))/\K_:=⟨p_,fun _=>Imp.refl _,k_⟩
abbrev kh124 (s:Za):Hint true Tryz.prog:=.call 124 (S124 s) (ok124 s) none
theorem kg125 {K_:Prop} (c_ b_:Bool) (s:Za) (p_:c_=b_->s.size<=1048576) (k_:K_):(c_=b_->s.size<=1048576)/\(c_=b_->Imp (.v (.string s)) (.v (.string s)))/\K_:=⟨p_,fun _=>Imp.refl _,k_⟩
abbrev kh125 (s:Za):Hint true Tryz.prog:=.call 125 (S125 s) (ok125 s) none
theorem kg127 {K_:Prop} (c_ b_:Bool) (s:Za) (p_:c_=b_->s.size<=1048576) (k_:K_):(c_=b_->s.size<=1048576)/\(c_=b_->Imp (.v (.string s)) (.v (.string s)))/\K_:=⟨p_,fun _=>Imp.refl _,k_⟩
abbrev kh127 (s:Za):Hint true Tryz.prog:=.call 127 (S127 s) (ok127 s) none
def F94 (w1:List Za):Bool :=
 bif ((w1.length:Int)==0) then false else (bif ((w1.getD (Int.toNat 0) default).toList==Zn.toList) then (bif ((w1.length:Int)==2) then (F124 (w1.getD (Int.toNat 1) default)) else false) else (bif ((w1.getD (Int.toNat 0) default).toList==Zk.toList) then (bif (bif ((w1.length:Int)==3) then (F124 (w1.getD (Int.toNat 1) default)) else false) then (F125 (w1.getD (Int.toNat 2) default)) else false) else (bif ((w1.getD (Int.toNat 0) default).toList==Zf.toList) then (bif (bif (bif ((w1.length:Int)==3) then true else (bif (bif ((w1.length:Int)==5) then ((w1.getD (Int.toNat 3) default).toList==Z0.toList) else false) then (F124 (w1.getD (Int.toNat 4) default)) else false)) then (decide (0<=F123 (w1.getD (Int.toNat 1) default)/\F123 (w1.getD (Int.toNat 1) default)<=7)) else false) then (F127 (w1.getD (Int.toNat 2) default)) else false) else (bif ((w1.getD (Int.toNat 0) default).toList==Zh.toList) then (bif (bif (bif (bif (bif (bif ((w1.length:Int)==7) then (F124 (w1.getD (Int.toNat 1) default)) else false) then (decide (0<=F123 (w1.getD (Int.toNat 2) default)/\F123 (w1.getD (Int.toNat 2) default)<=99)) else false) then (bif ((w1.getD (Int.toNat 3) default).toList==Zr.toList) then true else ((w1.getD (Int.toNat 3) default).toList==Zs.toList)) else false) then (F127 (w1.getD (Int.toNat 4) default)) else false) then (F127 (w1.getD (Int.toNat 5) default)) else false) then (decide (0<=F123 (w1.getD (Int.toNat 6) default)/\F123 (w1.getD (Int.toNat 6) default)<=7)) else false) else (bif ((w1.getD (Int.toNat 0) default).toList==Zq.toList) then (bif (bif ((w1.length:Int)==3) then (F127 (w1.getD (Int.toNat 1) default)) else false) then decide ((F120 (w1.getD (Int.toNat 2) default))>=0) else false) else (bif ((w1.getD (Int.toNat 0) default).toList==Zp.toList) then (bif (bif (bif ((w1.length:Int)==4) then decide ((F120 (w1.getD (Int.toNat 1) default))>=0) else false) then (decide (1<=F123 (w1.getD (Int.toNat 2) default)/\F123 (w1.getD (Int.toNat 2) default)<=9)) else false) then (decide (1<=F123 (w1.getD (Int.toNat 3) default)/\F123 (w1.getD (Int.toNat 3) default)<=999999)) else false) else (bif ((w1.getD (Int.toNat 0) default).toList==Ze.toList) then (bif (bif (bif (bif ((w1.length:Int)==5) then (F127 (w1.getD (Int.toNat 1) default)) else false) then decide ((F120 (w1.getD (Int.toNat 2) default))>=0) else false) then (decide (1<=F123 (w1.getD (Int.toNat 3) default)/\F123 (w1.getD (Int.toNat 3) default)<=65535)) else false) then (decide (1<=F123 (w1.getD (Int.toNat 4) default)/\F123 (w1.getD (Int.toNat 4) default)<=65535)) else false) else (bif ((w1.getD (Int.toNat 0) default).toList==Zj.toList) then (bif (bif (bif (bif ((w1.length:Int)==5) then (decide (1<=F123 (w1.getD (Int.toNat 1) default)/\F123 (w1.getD (Int.toNat 1) default)<=7)) else false) then (decide (1<=F123 (w1.getD (Int.toNat 2) default)/\F123 (w1.getD (Int.toNat 2) default)<=65535)) else false) then decide ((F120 (w1.getD (Int.toNat 3) default))>=0) else false) then (decide (1<=F123 (w1.getD (Int.toNat 4) default)/\F123 (w1.getD (Int.toNat 4) default)<=65535)) else false) else false))))))))
def S94 (w1:List Za):Spec:=⟨[.r (.c (.l 1 eStr w1))],.v (.bool (F94 w1)),(∀ k:Nat,(w1.getD k default).size<=1048576)⟩
abbrev q94_1 (w1:List Za):=(w1.getD (Int.toNat 1) default)
abbrev q94_2 (w1:List Za):=(w1.getD (Int.toNat 2) default)
abbrev q94_3 (w1:List Za):=(w1.getD (Int.toNat 3) default)
abbrev q94_4 (w1:List Za):=(w1.getD (Int.toNat 4) default)
abbrev q94_5 (w1:List Za):=(w1.getD (Int.toNat 0) default)
theorem ok94 (w1:List Za):(S94 w1).ok Tryz.prog 94 :=
 fnG_ok mixed (fn:=Tryz.f94) (ct:=.seqk [(0,0)] .no (.seq .no (.seq (.seq .no (.cond (.seq .no .no) .no)) (.seq (.seq .no (.blk (.seq .no (.cond (.seq (.reg [(6,kh124 (q94_1 w1))]) .no) (.seq .no (.cond (.seq (.reg [(6,kh124 (q94_1 w1)),(12,kh125 (q94_2 w1))]) .no) (.seq .no (.cond (.seq (.reg [(15,kh124 (q94_4 w1)),(22,kh126a (q94_1 w1) 0 7),(28,kh127 (q94_2 w1))]) .no) (.seq .no (.cond (.seq (.reg [(6,kh124 (q94_1 w1)),(12,kh126a (q94_2 w1) 0 99),(30,kh127 (q94_4 w1)),(36,kh127 (w1.getD (Int.toNat 5) default)),(42,kh126a (w1.getD (Int.toNat 6) default) 0 7)]) .no) (.seq .no (.cond (.seq (.reg [(6,kh127 (q94_1 w1)),(12,kh120 (q94_2 w1))]) .no) (.seq .no (.cond (.seq (.reg [(6,kh120 (q94_1 w1)),(13,kh126a (q94_2 w1) 1 9),(19,kh126a (q94_3 w1) 1 999999)]) .no) (.seq .no (.cond (.seq (.reg [(6,kh127 (q94_1 w1)),(12,kh120 (q94_2 w1)),(19,kh126a (q94_3 w1) 1 65535),(25,kh126a (q94_4 w1) 1 65535)]) .no) (.seq .no (.cond (.seq (.reg [(6,kh126a (q94_1 w1) 1 7),(12,kh126a (q94_2 w1) 1 65535),(18,kh120 (q94_3 w1)),(25,kh126a (q94_4 w1) 1 65535)]) .no) .no)))))))))))))))))) (.seq .no .no))))) Tryz.func94 (fun (hpre0:∀ k:Nat,(w1.getD k default).size<=1048576)=>kn w1 fun _=>ife (w1.length:Int) 0 (fun h1 _=>fiB false (F94 w1) (condT h1 rfl)) (fun h1 _=>ai (uu8:0<=(0:Int)/\(0:Int)<(w1.length:Int)) (ifb ((q94_5 w1).toList==Zn.toList) (fun h2=>ai (fun k3:((w1.length:Int)==2)=true=>have _:=eq_of_beq k3; (uu8:0<=(1:Int)/\(1:Int)<(w1.length:Int))) (kg124 ((w1.length:Int)==2) true (q94_1 w1) (fun k4=>have _:=eq_of_beq k4; uu9) (fiB (bif ((w1.length:Int)==2) then (F124 (q94_1 w1)) else false) (F94 w1) (condF h1 (condT h2 rfl))))) (fun h2=>ifb ((q94_5 w1).toList==Zk.toList) (fun h5=>ai (fun k6:((w1.length:Int)==3)=true=>have _:=eq_of_beq k6; (uu8:0<=(1:Int)/\(1:Int)<(w1.length:Int))) (kg124 ((w1.length:Int)==3) true (q94_1 w1) (fun k7=>have _:=eq_of_beq k7; uu9) (ai (fun k8:(bif ((w1.length:Int)==3) then (F124 (q94_1 w1)) else false)=true=>have _:=eq_of_beq (andT1 k8); (uu8:0<=(2:Int)/\(2:Int)<(w1.length:Int))) (kg125 (bif ((w1.length:Int)==3) then (F124 (q94_1 w1)) else false) true (q94_2 w1) (fun k9=>have _:=eq_of_beq (andT1 k9); uu9) (fiB (bif (bif ((w1.length:Int)==3) then (F124 (q94_1 w1)) else false) then (F125 (q94_2 w1)) else false) (F94 w1) (condF h1 (condF h2 (condT h5 rfl)))))))) (fun h5=>ifb ((q94_5 w1).toList==Zf.toList) (fun h10=>ai (fun k12:((w1.length:Int)==5)=true=>have _:=eq_of_beq k12; (fun k11:((w1.length:Int)==3)=false=>have _:=beqF k11; (uu8:0<=(3:Int)/\(3:Int)<(w1.length:Int)))) (ai (fun k14:(bif ((w1.length:Int)==5) then ((q94_3 w1).toList==Z0.toList) else false)=true=>have _:=eq_of_beq (andT1 k14); have _:((q94_3 w1).toList==Z0.toList)=true:=(andT2 k14); (fun k13:((w1.length:Int)==3)=false=>have _:=beqF k13; (uu8:0<=(4:Int)/\(4:Int)<(w1.length:Int)))) (ai (fun k16:(bif ((w1.length:Int)==5) then ((q94_3 w1).toList==Z0.toList) else false)=true=>have _:=eq_of_beq (andT1 k16); have _:((q94_3 w1).toList==Z0.toList)=true:=(andT2 k16); (fun k15:((w1.length:Int)==3)=false=>have _:=beqF k15; (uu9:(q94_4 w1).size<=1048576))) (ai (fun k18:(bif ((w1.length:Int)==5) then ((q94_3 w1).toList==Z0.toList) else false)=true=>have _:=eq_of_beq (andT1 k18); have _:((q94_3 w1).toList==Z0.toList)=true:=(andT2 k18); (fun k17:((w1.length:Int)==3)=false=>have _:=beqF k17; (Imp.refl (.v (.string (q94_4 w1)))))) (ai (fun k19:(bif ((w1.length:Int)==3) then true else (bif (bif ((w1.length:Int)==5) then ((q94_3 w1).toList==Z0.toList) else false) then (F124 (q94_4 w1)) else false))=true=>(uu60:0<=(1:Int)/\(1:Int)<(w1.length:Int))) (kg126a (bif ((w1.length:Int)==3) then true else (bif (bif ((w1.length:Int)==5) then ((q94_3 w1).toList==Z0.toList) else false) then (F124 (q94_4 w1)) else false)) true (q94_1 w1) 0 7 (fun k20=>uu9) (ai (fun k21:(bif (bif ((w1.length:Int)==3) then true else (bif (bif ((w1.length:Int)==5) then ((q94_3 w1).toList==Z0.toList) else false) then (F124 (q94_4 w1)) else false)) then (decide (0<=F123 (q94_1 w1)/\F123 (q94_1 w1)<=7)) else false)=true=>have _:=Qb (andT2 k21); (uu60:0<=(2:Int)/\(2:Int)<(w1.length:Int))) (kg127 (bif (bif ((w1.length:Int)==3) then true else (bif (bif ((w1.length:Int)==5) then ((q94_3 w1).toList==Z0.toList) else false) then (F124 (q94_4 w1)) else false)) then (decide (0<=F123 (q94_1 w1)/\F123 (q94_1 w1)<=7)) else false) true (q94_2 w1) (fun k22=>have _:=Qb (andT2 k22); uu9) (fiB (bif (bif (bif ((w1.length:Int)==3) then true else (bif (bif ((w1.length:Int)==5) then ((q94_3 w1).toList==Z0.toList) else false) then (F124 (q94_4 w1)) else false)) then (decide (0<=F123 (q94_1 w1)/\F123 (q94_1 w1)<=7)) else false) then (F127 (q94_2 w1)) else false) (F94 w1) (condF h1 (condF h2 (condF h5 (condT h10 rfl))))))))))))) (fun h10=>ifb ((q94_5 w1).toList==Zh.toList) (fun h23=>ai (fun k24:((w1.length:Int)==7)=true=>have _:=eq_of_beq k24; (uu8:0<=(1:Int)/\(1:Int)<(w1.length:Int))) (kg124 ((w1.length:Int)==7) true (q94_1 w1) (fun k25=>have _:=eq_of_beq k25; uu9) (ai (fun k26:(bif ((w1.length:Int)==7) then (F124 (q94_1 w1)) else false)=true=>have _:=eq_of_beq (andT1 k26); (uu8:0<=(2:Int)/\(2:Int)<(w1.length:Int))) (kg126a (bif ((w1.length:Int)==7) then (F124 (q94_1 w1)) else false) true (q94_2 w1) 0 99 (fun k27=>have _:=eq_of_beq (andT1 k27); uu9) (ai (fun k28:(bif (bif ((w1.length:Int)==7) then (F124 (q94_1 w1)) else false) then (decide (0<=F123 (q94_2 w1)/\F123 (q94_2 w1)<=99)) else false)=true=>have _:=eq_of_beq (andT1 (andT1 k28)); have _:=Qb (andT2 k28); (uu8:0<=(3:Int)/\(3:Int)<(w1.length:Int))) (ai (fun k30:((q94_3 w1).toList==Zr.toList)=false=>(fun k29:(bif (bif ((w1.length:Int)==7) then (F124 (q94_1 w1)) else false) then (decide (0<=F123 (q94_2 w1)/\F123 (q94_2 w1)<=99)) else false)=true=>have _:=eq_of_beq (andT1 (andT1 k29)); have _:=Qb (andT2 k29); (uu8:0<=(3:Int)/\(3:Int)<(w1.length:Int)))) (ai (fun k31:(bif (bif (bif ((w1.length:Int)==7) then (F124 (q94_1 w1)) else false) then (decide (0<=F123 (q94_2 w1)/\F123 (q94_2 w1)<=99)) else false) then (bif ((q94_3 w1).toList==Zr.toList) then true else ((q94_3 w1).toList==Zs.toList)) else false)=true=>have _:=eq_of_beq (andT1 (andT1 (andT1 k31))); have _:=Qb (andT2 (andT1 k31)); (uu8:0<=(4:Int)/\(4:Int)<(w1.length:Int))) (kg127 (bif (bif (bif ((w1.length:Int)==7) then (F124 (q94_1 w1)) else false) then (decide (0<=F123 (q94_2 w1)/\F123 (q94_2 w1)<=99)) else false) then (bif ((q94_3 w1).toList==Zr.toList) then true else ((q94_3 w1).toList==Zs.toList)) else false) true (q94_4 w1) (fun k32=>have _:=eq_of_beq (andT1 (andT1 (andT1 k32))); have _:=Qb (andT2 (andT1 k32)); uu9) (ai (fun k33:(bif (bif (bif (bif ((w1.length:Int)==7) then (F124 (q94_1 w1)) else false) then (decide (0<=F123 (q94_2 w1)/\F123 (q94_2 w1)<=99)) else false) then (bif ((q94_3 w1).toList==Zr.toList) then true else ((q94_3 w1).toList==Zs.toList)) else false) then (F127 (q94_4 w1)) else false)=true=>have _:=eq_of_beq (andT1 (andT1 (andT1 (andT1 k33)))); have _:=Qb (andT2 (andT1 (andT1 k33))); (uu8:0<=(5:Int)/\(5:Int)<(w1.length:Int))) (kg127 (bif (bif (bif (bif ((w1.length:Int)==7) then (F124 (q94_1 w1)) else false) then (decide (0<=F123 (q94_2 w1)/\F123 (q94_2 w1)<=99)) else false) then (bif ((q94_3 w1).toList==Zr.toList) then true else ((q94_3 w1).toList==Zs.toList)) else false) then (F127 (q94_4 w1)) else false) true (w1.getD (Int.toNat 5) default) (fun k34=>have _:=eq_of_beq (andT1 (andT1 (andT1 (andT1 k34)))); have _:=Qb (andT2 (andT1 (andT1 k34))); uu9) (ai (fun k35:(bif (bif (bif (bif (bif ((w1.length:Int)==7) then (F124 (q94_1 w1)) else false) then (decide (0<=F123 (q94_2 w1)/\F123 (q94_2 w1)<=99)) else false) then (bif ((q94_3 w1).toList==Zr.toList) then true else ((q94_3 w1).toList==Zs.toList)) else false) then (F127 (q94_4 w1)) else false) then (F127 (w1.getD (Int.toNat 5) default)) else false)=true=>have _:=eq_of_beq (andT1 (andT1 (andT1 (andT1 (andT1 k35))))); have _:=Qb (andT2 (andT1 (andT1 (andT1 k35)))); (uu8:0<=(6:Int)/\(6:Int)<(w1.length:Int))) (kg126a (bif (bif (bif (bif (bif ((w1.length:Int)==7) then (F124 (q94_1 w1)) else false) then (decide (0<=F123 (q94_2 w1)/\F123 (q94_2 w1)<=99)) else false) then (bif ((q94_3 w1).toList==Zr.toList) then true else ((q94_3 w1).toList==Zs.toList)) else false) then (F127 (q94_4 w1)) else false) then (F127 (w1.getD (Int.toNat 5) default)) else false) true (w1.getD (Int.toNat 6) default) 0 7 (fun k36=>have _:=eq_of_beq (andT1 (andT1 (andT1 (andT1 (andT1 k36))))); have _:=Qb (andT2 (andT1 (andT1 (andT1 k36)))); uu9) (fiB (bif (bif (bif (bif (bif (bif ((w1.length:Int)==7) then (F124 (q94_1 w1)) else false) then (decide (0<=F123 (q94_2 w1)/\F123 (q94_2 w1)<=99)) else false) then (bif ((q94_3 w1).toList==Zr.toList) then true else ((q94_3 w1).toList==Zs.toList)) else false) then (F127 (q94_4 w1)) else false) then (F127 (w1.getD (Int.toNat 5) default)) else false) then (decide (0<=F123 (w1.getD (Int.toNat 6) default)/\F123 (w1.getD (Int.toNat 6) default)<=7)) else false) (F94 w1) (condF h1 (condF h2 (condF h5 (condF h10 (condT h23 rfl)))))))))))))))))) (fun h23=>ifb ((q94_5 w1).toList==Zq.toList) (fun h37=>ai (fun k38:((w1.length:Int)==3)=true=>have _:=eq_of_beq k38; (uu8:0<=(1:Int)/\(1:Int)<(w1.length:Int))) (kg127 ((w1.length:Int)==3) true (q94_1 w1) (fun k39=>have _:=eq_of_beq k39; uu9) (ai (fun k40:(bif ((w1.length:Int)==3) then (F127 (q94_1 w1)) else false)=true=>have _:=eq_of_beq (andT1 k40); (uu8:0<=(2:Int)/\(2:Int)<(w1.length:Int))) (kg120 (bif ((w1.length:Int)==3) then (F127 (q94_1 w1)) else false) true (q94_2 w1) (fun k41=>have _:=eq_of_beq (andT1 k41); uu9) (fiB (bif (bif ((w1.length:Int)==3) then (F127 (q94_1 w1)) else false) then decide ((F120 (q94_2 w1))>=0) else false) (F94 w1) (condF h1 (condF h2 (condF h5 (condF h10 (condF h23 (condT h37 rfl))))))))))) (fun h37=>ifb ((q94_5 w1).toList==Zp.toList) (fun h42=>ai (fun k43:((w1.length:Int)==4)=true=>have _:=eq_of_beq k43; (uu8:0<=(1:Int)/\(1:Int)<(w1.length:Int))) (kg120 ((w1.length:Int)==4) true (q94_1 w1) (fun k44=>have _:=eq_of_beq k44; uu9) (ai (fun k45:(bif ((w1.length:Int)==4) then decide ((F120 (q94_1 w1))>=0) else false)=true=>have _:=eq_of_beq (andT1 k45); have _:=Qb (andT2 k45); (uu8:0<=(2:Int)/\(2:Int)<(w1.length:Int))) (kg126a (bif ((w1.length:Int)==4) then decide ((F120 (q94_1 w1))>=0) else false) true (q94_2 w1) 1 9 (fun k46=>have _:=eq_of_beq (andT1 k46); have _:=Qb (andT2 k46); uu9) (ai (fun k47:(bif (bif ((w1.length:Int)==4) then decide ((F120 (q94_1 w1))>=0) else false) then (decide (1<=F123 (q94_2 w1)/\F123 (q94_2 w1)<=9)) else false)=true=>have _:=eq_of_beq (andT1 (andT1 k47)); have _:=Qb (andT2 (andT1 k47)); have _:=Qb (andT2 k47); (uu8:0<=(3:Int)/\(3:Int)<(w1.length:Int))) (kg126a (bif (bif ((w1.length:Int)==4) then decide ((F120 (q94_1 w1))>=0) else false) then (decide (1<=F123 (q94_2 w1)/\F123 (q94_2 w1)<=9)) else false) true (q94_3 w1) 1 999999 (fun k48=>have _:=eq_of_beq (andT1 (andT1 k48)); have _:=Qb (andT2 (andT1 k48)); have _:=Qb (andT2 k48); uu9) (fiB (bif (bif (bif ((w1.length:Int)==4) then decide ((F120 (q94_1 w1))>=0) else false) then (decide (1<=F123 (q94_2 w1)/\F123 (q94_2 w1)<=9)) else false) then (decide (1<=F123 (q94_3 w1)/\F123 (q94_3 w1)<=999999)) else false) (F94 w1) (condF h1 (condF h2 (condF h5 (condF h10 (condF h23 (condF h37 (condT h42 rfl)))))))))))))) (fun h42=>ifb ((q94_5 w1).toList==Ze.toList) (fun h49=>ai (fun k50:((w1.length:Int)==5)=true=>have _:=eq_of_beq k50; (uu8:0<=(1:Int)/\(1:Int)<(w1.length:Int))) (kg127 ((w1.length:Int)==5) true (q94_1 w1) (fun k51=>have _:=eq_of_beq k51; uu9) (ai (fun k52:(bif ((w1.length:Int)==5) then (F127 (q94_1 w1)) else false)=true=>have _:=eq_of_beq (andT1 k52); (uu8:0<=(2:Int)/\(2:Int)<(w1.length:Int))) (kg120 (bif ((w1.length:Int)==5) then (F127 (q94_1 w1)) else false) true (q94_2 w1) (fun k53=>have _:=eq_of_beq (andT1 k53); uu9) (ai (fun k54:(bif (bif ((w1.length:Int)==5) then (F127 (q94_1 w1)) else false) then decide ((F120 (q94_2 w1))>=0) else false)=true=>have _:=eq_of_beq (andT1 (andT1 k54)); have _:=Qb (andT2 k54); (uu8:0<=(3:Int)/\(3:Int)<(w1.length:Int))) (kg126a (bif (bif ((w1.length:Int)==5) then (F127 (q94_1 w1)) else false) then decide ((F120 (q94_2 w1))>=0) else false) true (q94_3 w1) 1 65535 (fun k55=>have _:=eq_of_beq (andT1 (andT1 k55)); have _:=Qb (andT2 k55); uu9) (ai (fun k56:(bif (bif (bif ((w1.length:Int)==5) then (F127 (q94_1 w1)) else false) then decide ((F120 (q94_2 w1))>=0) else false) then (decide (1<=F123 (q94_3 w1)/\F123 (q94_3 w1)<=65535)) else false)=true=>have _:=eq_of_beq (andT1 (andT1 (andT1 k56))); have _:=Qb (andT2 (andT1 k56)); have _:=Qb (andT2 k56); (uu8:0<=(4:Int)/\(4:Int)<(w1.length:Int))) (kg126a (bif (bif (bif ((w1.length:Int)==5) then (F127 (q94_1 w1)) else false) then decide ((F120 (q94_2 w1))>=0) else false) then (decide (1<=F123 (q94_3 w1)/\F123 (q94_3 w1)<=65535)) else false) true (q94_4 w1) 1 65535 (fun k57=>have _:=eq_of_beq (andT1 (andT1 (andT1 k57))); have _:=Qb (andT2 (andT1 k57)); have _:=Qb (andT2 k57); uu9) (fiB (bif (bif (bif (bif ((w1.length:Int)==5) then (F127 (q94_1 w1)) else false) then decide ((F120 (q94_2 w1))>=0) else false) then (decide (1<=F123 (q94_3 w1)/\F123 (q94_3 w1)<=65535)) else false) then (decide (1<=F123 (q94_4 w1)/\F123 (q94_4 w1)<=65535)) else false) (F94 w1) (condF h1 (condF h2 (condF h5 (condF h10 (condF h23 (condF h37 (condF h42 (condT h49 rfl))))))))))))))))) (fun h49=>ifb ((q94_5 w1).toList==Zj.toList) (fun h58=>ai (fun k59:((w1.length:Int)==5)=true=>have _:=eq_of_beq k59; (uu8:0<=(1:Int)/\(1:Int)<(w1.length:Int))) (kg126a ((w1.length:Int)==5) true (q94_1 w1) 1 7 (fun k60=>have _:=eq_of_beq k60; uu9) (ai (fun k61:(bif ((w1.length:Int)==5) then (decide (1<=F123 (q94_1 w1)/\F123 (q94_1 w1)<=7)) else false)=true=>have _:=eq_of_beq (andT1 k61); have _:=Qb (andT2 k61); (uu8:0<=(2:Int)/\(2:Int)<(w1.length:Int))) (kg126a (bif ((w1.length:Int)==5) then (decide (1<=F123 (q94_1 w1)/\F123 (q94_1 w1)<=7)) else false) true (q94_2 w1) 1 65535 (fun k62=>have _:=eq_of_beq (andT1 k62); have _:=Qb (andT2 k62); uu9) (ai (fun k63:(bif (bif ((w1.length:Int)==5) then (decide (1<=F123 (q94_1 w1)/\F123 (q94_1 w1)<=7)) else false) then (decide (1<=F123 (q94_2 w1)/\F123 (q94_2 w1)<=65535)) else false)=true=>have _:=eq_of_beq (andT1 (andT1 k63)); have _:=Qb (andT2 (andT1 k63)); have _:=Qb (andT2 k63); (uu8:0<=(3:Int)/\(3:Int)<(w1.length:Int))) (kg120 (bif (bif ((w1.length:Int)==5) then (decide (1<=F123 (q94_1 w1)/\F123 (q94_1 w1)<=7)) else false) then (decide (1<=F123 (q94_2 w1)/\F123 (q94_2 w1)<=65535)) else false) true (q94_3 w1) (fun k64=>have _:=eq_of_beq (andT1 (andT1 k64)); have _:=Qb (andT2 (andT1 k64)); have _:=Qb (andT2 k64); uu9) (ai (fun k65:(bif (bif (bif ((w1.length:Int)==5) then (decide (1<=F123 (q94_1 w1)/\F123 (q94_1 w1)<=7)) else false) then (decide (1<=F123 (q94_2 w1)/\F123 (q94_2 w1)<=65535)) else false) then decide ((F120 (q94_3 w1))>=0) else false)=true=>have _:=eq_of_beq (andT1 (andT1 (andT1 k65))); have _:=Qb (andT2 (andT1 (andT1 k65))); have _:=Qb (andT2 (andT1 k65)); have _:=Qb (andT2 k65); (uu8:0<=(4:Int)/\(4:Int)<(w1.length:Int))) (kg126a (bif (bif (bif ((w1.length:Int)==5) then (decide (1<=F123 (q94_1 w1)/\F123 (q94_1 w1)<=7)) else false) then (decide (1<=F123 (q94_2 w1)/\F123 (q94_2 w1)<=65535)) else false) then decide ((F120 (q94_3 w1))>=0) else false) true (q94_4 w1) 1 65535 (fun k66=>have _:=eq_of_beq (andT1 (andT1 (andT1 k66))); have _:=Qb (andT2 (andT1 (andT1 k66))); have _:=Qb (andT2 (andT1 k66)); have _:=Qb (andT2 k66); uu9) (fiB (bif (bif (bif (bif ((w1.length:Int)==5) then (decide (1<=F123 (q94_1 w1)/\F123 (q94_1 w1)<=7)) else false) then (decide (1<=F123 (q94_2 w1)/\F123 (q94_2 w1)<=65535)) else false) then decide ((F120 (q94_3 w1))>=0) else false) then (decide (1<=F123 (q94_4 w1)/\F123 (q94_4 w1)<=65535)) else false) (F94 w1) (condF h1 (condF h2 (condF h5 (condF h10 (condF h23 (condF h37 (condF h42 (condF h49 (condT h58 rfl)))))))))))))))))) (fun h58=>fiB false (F94 w1) (condF h1 (condF h2 (condF h5 (condF h10 (condF h23 (condF h37 (condF h42 (condF h49 (condF h58 rfl)))))))))))))))))))) uu2
def F95_s0 (list:List Za) (with':Za):(Za×Int)->Lp (Za×Int) Za:=fun (out,i40) =>
 bif (decide (i40<(list.length:Int))) then (bif (decide (i40>0)) then (.next (((out++with')++(list.getD i40.toNat default)),(i40+1))) else (.next ((out++(list.getD i40.toNat default)),(i40+1)))) else (.done (out,i40))
def F95 (list:List Za) (with':Za):Za :=
 (runL (F95_s0 list with') (((list.length:Int)-0).toNat+1) (Zc,0)).fin (fun r=>r) (fun (out,i40)=>out)
abbrev lN95_0 (list:List Za):Nat×(Za×Int):=((((list.length:Int)-0).toNat+1),(Zc,0))
abbrev lI95_0 (list:List Za) (m39:Nat) (out:Za) (i40:Int):Prop:=Int.toNat ((list.length:Int)-i40)<m39/\(out.size:Int)<=i40*1048577/\(0:Int)<=i40
abbrev lX95_0 (list:List Za) (with':Za):Lp (Za×Int) Za:=LpX (F95_s0 list with') (lN95_0 list)
abbrev lJ95_0 (list:List Za) (with':Za) (i:Nat×(Za×Int)):Prop:=LpJ (F95_s0 list with') (lN95_0 list) i (lI95_0 list i.1 i.2.1 i.2.2)
abbrev lH95_0 (list:List Za) (with':Za) (i:Nat×(Za×Int)) (m39:Nat) (out:Za) (i40:Int):Prop:=LpH (F95_s0 list with') (lN95_0 list) i m39 (out,i40) (lI95_0 list (m39+1) out i40)
abbrev lE95_0 (list:List Za) (with':Za) (out:Za) (i40:Int) (out_:Za) (i40_:Int) (K39:Prop):Prop:=(Rf (.string with'))/\((.string out:Value)=.string out_)/\((.int .i64 i40:Value)=.int .i64 i40_)/\(Im (.l 1 eStr list))/\K39
theorem un95_0 (list:List Za) (with':Za) (i:Nat×(Za×Int)) (h:lJ95_0 list with' i):lH95_0 list with' i (i.1-1) i.2.1 i.2.2:=⟨hd1 h.1 h.2.1,hd3 h.2.1,hd2 h.2.1,h.2.2⟩
theorem bk95_0 (list:List Za) (with':Za) (i:Nat×(Za×Int)) (m39:Nat) (out:Za) (i40:Int) (hl:m39<i.1) (e:runL (F95_s0 list with') m39 (out,i40)=lX95_0 list with') (h:lI95_0 list m39 out i40):∃ j:Nat×(Za×Int),lE95_0 list with' out i40 j.2.1 j.2.2 (lJ95_0 list with' j/\j.1<i.1):=⟨(m39,(out,i40)),rfl,rfl,rfl,Imp.refl _,⟨e,h⟩,hl⟩
theorem en95_0 (list:List Za) (with':Za) (h:(Zc.size:Int)<=0*1048577/\(0:Int)<=0):lE95_0 list with' Zc 0 Zc 0 (lJ95_0 list with' (lN95_0 list)):=⟨rfl,rfl,rfl,Imp.refl _,rfl,Qt _,h⟩
def S95 (list:List Za) (with':Za):Spec:=⟨[.r (.c (.l 1 eStr list)),.r (.c (.v (.string with')))],.v (.string (F95 list with')),list.length<=8/\(∀ k:Nat,(list.getD k default).size<=1048576)/\with'.size<=1⟩
theorem ok95 (list:List Za) (with':Za):(S95 list with').ok Tryz.prog 95 :=
 fnG_ok mixed (fn:=Tryz.f95) (ct:=.seqk [(0,0)] .no (.seq .no (.seq (.seqk [(0,0)] .no (.blk (.loop (ι:=Nat×(Za×Int)) (fun i=>(fun (out:Za) (i40:Int)=>(⟨[(0,some (.h 0 0)),(1,some (.v (.string with'))),(5,some (.v (.string out))),(6,some (.v (vI i40)))],[(0,some (.shr none (.l 1 eStr list)))],1⟩:St)) i.2.1 i.2.2) (lJ95_0 list with') (fun i=>i.1) (lN95_0 list) (fun i=>(fun (out:Za) (i40:Int)=>(.seq (.seq .no (.cond .no .no)) (.seq (.blk (.seq (.seq .no (.cond .no .no)) .no)) (.reg [(1,.bnd)])))) i.2.1 i.2.2)))) (.seq .no .no)))) Tryz.func95 (fun (hp:list.length<=8/\(∀ k:Nat,(list.getD k default).size<=1048576)/\with'.size<=1)=>have hpre0:=hp.1; have hpre1:=hp.2.1; have hpre2:=hp.2.2; kn list fun _=>kn list fun _=>ai (en95_0 list with' (by refine ⟨?_,?_⟩ <;> ((try simp only [size_app,sz0] at *); omega))) (fun (i0:Nat×(Za×Int)) (hi0:lJ95_0 list with' i0)=>(fun (m0:Nat) (out:Za) (i40:Int) (hh0:lH95_0 list with' i0 m0 out i40)=>have hI0:=hh0.1; have hl0:=hh0.2.1; have _:=hh0.2.2.1; have _:=hh0.2.2.2; ifd (i40<(list.length:Int)) (fun h2 _=>ifd (i40>0) (fun h3 _=>ai (uu47:((out.size+with'.size:Nat):Int)<=9223372036854775807) (ai (uu0:ib i40 list) (ai (uu47:(((out++with').size+(list.getD i40.toNat default).size:Nat):Int)<=9223372036854775807) (ai (iok (i40+1) uu0) (bk95_0 list with' i0 m0 ((out++with')++(list.getD i40.toNat default)) (i40+1) hl0 (runL_next hI0 (condT h2 (condT h3 rfl))) uu61))))) (fun h3 _=>ai (uu0:ib i40 list) (ai (uu47:((out.size+(list.getD i40.toNat default).size:Nat):Int)<=9223372036854775807) (ai (iok (i40+1) uu0) (bk95_0 list with' i0 m0 (out++(list.getD i40.toNat default)) (i40+1) hl0 (runL_next hI0 (condT h2 (condF h3 rfl))) uu61))))) (fun h2 _=>have hD0_4:lX95_0 list with'=Lp.done (out,i40):=runL_done hI0 (condF h2 rfl); fiS out (F95 list with') (finD hD0_4 rfl))) (i0.1-1) i0.2.1 i0.2.2 (un95_0 list with' i0 hi0))) uu2
def isDig (b:UInt8):Bool:=decide (48<=b.toNat/\b.toNat<=57)
def valL (acc:Nat) (l:List UInt8):Nat:=l.foldl (fun a b=>a*10+(b.toNat-48)) acc
theorem valL_snoc (acc:Nat) (l:List UInt8) (b:UInt8):valL acc (l++[b])=valL acc l*10+(b.toNat-48):=by
 simp [valL,List.foldl_append]
def neatN (l:List UInt8):Bool:=!l.isEmpty&&l.all isDig&&!(decide (l.length>1)&&(l.getD 0 0==48))
theorem valL_ge:∀ (l:List UInt8) (acc:Nat),acc<=valL acc l
 | [],acc=>Qp _
 | b :: l,acc=>Q0 uu0 (valL_ge l (acc*10+(b.toNat-48)))
theorem dig_of {b:UInt8} (h:isDig b=true):48<=b.toNat/\b.toNat<=57:=Qb h
theorem ofNat_dig {b:UInt8} (h:isDig b=true):UInt8.ofNat (48+(b.toNat-48))=b:=by
 have:=dig_of h
 rw [show 48+(b.toNat-48)=b.toNat by omega]
 exact UInt8.ofNat_toNat
theorem neatN_pos {b:UInt8} {l:List UInt8} (h:neatN (b :: l)=true) (hl:l≠[]):1<=valL 0 (b :: l):=by
 unfold neatN at h
 simp only [Qn,Tf,Ru] at h
 obtain ⟨⟨_,hb,_⟩,h0⟩:=h
 have hd:=dig_of hb
 have hlen:decide ((b :: l).length>1)=true:=Qs (by
  cases l with
  | nil=>exact absurd rfl hl
  | cons a l=>simp)
 rw [hlen,Sy] at h0
 have hne:b≠48:=by
  have:(b==48)=false:=h0
  exact Qx.1 this
 have h48:b.toNat≠48:=fun e=>hne (UInt8.toNat_inj.1 e)
 refine Q0 ?_ (valL_ge l (0*10+(b.toNat-48)))
 omega
theorem neat_init {l:List UInt8} {b:UInt8} (hl:l≠[]) (h:neatN (l++[b])=true):neatN l=true:=by
 unfold neatN at h ⊢
 simp only [Qn,Tf,Gg] at h ⊢
 obtain ⟨⟨_,ha,_⟩,h0⟩:=h
 cases l with
 | nil=>exact absurd rfl hl
 | cons a l =>
  refine ⟨⟨rfl,ha⟩,?_⟩
  have hlen:decide ((a :: l++[b]).length>1)=true:=Qs uu18
  rw [hlen,Sy] at h0
  have:(a==48)=false:=h0
  have e:((a :: l).getD 0 0==(48:UInt8))=false:=this
  rw [e,Sj]
theorem dec_val:∀ (n:Nat) (l:List UInt8),l.length=n->neatN l=true->Lib.decDigits (valL 0 l)=l
 | 0,l,hn,h=>by
  rw [List.length_eq_zero_iff.1 hn] at h; cases h
 | n+1,l,hn,h=>by
  have hne:l≠[]:=fun e=>by rw [e] at hn; cases hn
  obtain ⟨i,b,rfl⟩:∃ i b,l=i++[b]:=⟨l.dropLast,l.getLast hne,(List.dropLast_concat_getLast hne).symm⟩
  have hdb:isDig b=true:=by
   unfold neatN at h
   simp only [Qn,Gg,Ru] at h
   exact h.1.2.2.1
  have hb:=dig_of hdb
  rw [valL_snoc]
  by_cases hi:i=[]
  ·subst hi
   have e:valL 0 ([]:List UInt8)*10+(b.toNat-48)=b.toNat-48:=by simp [valL]
   rw [e,Lib.decDigits_one uu0,ofNat_dig hdb]; rfl
  ·have hin:=neat_init hi h
   have hpos:1<=valL 0 i*10+(b.toNat-48):=by
    cases i with
    | nil=>exact absurd rfl hi
    | cons a i =>
     have:=neatN_pos (b:=a) (l:=i++[b]) h uu18
     have e:=valL_snoc 0 (a :: i) b
     rw [Te] at e
     omega
   have hip:1<=valL 0 i:=by
    cases i with
    | nil=>exact absurd rfl hi
    | cons a i =>
     by_cases hi2:i=[]
     ·subst hi2
      have h0:=h
      unfold neatN at h0
      simp only [Qn,Tf,Gg,Ru] at h0
      have hd:=dig_of h0.1.2.1.1
      have h1:(a==48)=false:=by
       have:=h0.2
       rw [show decide (([a]++[b]).length>1)=true from rfl,Sy] at this
       exact this
      have h48:a.toNat≠48:=fun e=>Qx.1 h1 (UInt8.toNat_inj.1 e)
      simp only [valL,So,List.foldl_nil]
      omega
     ·exact neatN_pos hin hi2
   rw [Lib.decDigits,dif_neg uu0]
   have e1:(valL 0 i*10+(b.toNat-48)) / 10=valL 0 i:=by omega
   have e2:(valL 0 i*10+(b.toNat-48))%10=b.toNat-48:=by omega
   have hlen:i.length=n:=by
    rw [Q6] at hn
    simpa using hn
   rw [e1,e2,dec_val n i hlen hin,ofNat_dig hdb]
theorem dec_dig (u:Nat) (h:u<10):isDig (UInt8.ofNat (48+u))=true:=by
 unfold isDig
 rw [UInt8.toNat_ofNat']
 exact Qs uu0
theorem dec_facts:∀ (n u:Nat),u<=n->Lib.decDigits u≠[]/\(Lib.decDigits u).all isDig=true/\(1<=u->(Lib.decDigits u).getD 0 0≠48)
 | n,u,hu=>by
  by_cases h:u<10
  ·rw [Lib.decDigits_one h]
   refine ⟨by simp,by rw [Ru,dec_dig u h]; rfl,fun h1 e=>?_⟩
   have e1:UInt8.ofNat (48+u)=48:=e
   have:=Qg UInt8.toNat e1
   rw [UInt8.toNat_ofNat'] at this
   have h48:(48:UInt8).toNat=48:=rfl
   omega
  ·cases n with
   | zero=>omega
   | succ n =>
    obtain ⟨h1,h2,h3⟩:=dec_facts n (u / 10) uu0
    rw [Lib.decDigits,dif_neg h]
    refine ⟨by simp,by rw [Gg,h2,Ru,dec_dig _ uu0]; rfl,fun _=>?_⟩
    cases hd:Lib.decDigits (u / 10) with
    | nil=>exact absurd hd h1
    | cons a l =>
     rw [hd] at h3
     exact h3 uu0
theorem dec_neat (u:Nat):neatN (Lib.decDigits u)=true:=by
 obtain ⟨h1,h2,h3⟩:=dec_facts u u (Qp _)
 unfold neatN
 have e1:(Lib.decDigits u).isEmpty=false:=by
  cases hd:Lib.decDigits u with
  | nil=>exact absurd hd h1
  | cons a l=>rfl
 rw [e1,h2]
 by_cases hu:1<=u
 ·have e:((Lib.decDigits u).getD 0 0==(48:UInt8))=false:=Qx.2 (h3 hu)
  rw [e,Sj]; rfl
 ·have e:Lib.decDigits u=[UInt8.ofNat (48+u)]:=Lib.decDigits_one uu0
  rw [e]; rfl
theorem parse_val:∀ (l:List UInt8) (acc:Nat),l.all isDig=true->(acc+1)*10 ^ l.length<=1000000000000000000->Lib.parseUint10 acc l=.ok (valL acc l)
 | [],acc,_,_=>rfl
 | b :: l,acc,h,hb=>by
  rw [Ru,Qn] at h
  have hd:=dig_of h.1
  have hp:1<=10 ^ l.length:=Nat.one_le_pow _ _ uu0
  have e:(acc+1)*10 ^ (b :: l).length=((acc+1)*10)*10 ^ l.length:=by
   rw [Q4,Nat.pow_succ,Gc (10 ^ l.length) 10,Nat.mul_assoc]
  rw [e] at hb
  have h1:(acc+1)*10<=1000000000000000000:=Q0 (Ga _ hp) hb
  rw [Lib.parseUint10,if_pos hd,if_neg uu0,if_neg uu0]
  exact parse_val l _ h.2 (Q0 (Ra _ uu0) hb)
theorem valL_lt:∀ (l:List UInt8) (acc:Nat),l.all isDig=true->valL acc l<(acc+1)*10 ^ l.length
 | [],acc,_=>by simp [valL]
 | b :: l,acc,h=>by
  rw [Ru,Qn] at h
  have hd:=dig_of h.1
  have e:(acc+1)*10 ^ (b :: l).length=((acc+1)*10)*10 ^ l.length:=by
   rw [Q4,Nat.pow_succ,Gc (10 ^ l.length) 10,Nat.mul_assoc]
  rw [e]
  exact Rm (valL_lt l (acc*10+(b.toNat-48)) h.2) (Ra _ uu0)
def num6 (l:List UInt8):Int:=bif neatN l&&decide (l.length<=6) then (valL 0 l:Int) else -1
theorem itoa_nn (v:Int) (h:0<=v):Lib.itoa v=Lib.decDigits v.toNat:=by
 unfold Lib.itoa
 rw [if_neg uu0]
theorem decN_six (s:Za) (h:s.size<=6):decN s=num6 s.data.toList:=by
 have hl:s.data.toList.length=s.size:=Q9
 unfold num6
 rw [Qs (show s.data.toList.length<=6 by omega),Sz]
 cases hn:neatN s.data.toList with
 | true =>
  have hd:=dec_val _ _ rfl hn
  have hn2:=hn
  unfold neatN at hn2
  simp only [Qn] at hn2
  have hall:=hn2.1.2
  have hp:=parse_val s.data.toList 0 hall (by
   have:10 ^ s.data.toList.length<=10 ^ 6:=Gu uu0 uu0
   omega)
  unfold decN
  cases hs:s.data.toList with
  | nil=>rw [hs] at hn; cases hn
  | cons b l =>
   rw [hs] at hall hp hd
   have hb:=dig_of (Re.1 hall b Ql)
   have hlt:=Lib.parseUint10_lt _ 0 _ uu0 hp
   have hsmall:valL 0 (b :: l)<9223372036854775808:=by
    have h1:=valL_lt (b :: l) 0 hall
    have h2:10 ^ (b :: l).length<=10 ^ 6:=Gu uu0 (by rw [<- hs]; omega)
    omega
   have ea:Lib.atoiAll (b :: l)=.ok (valL 0 (b :: l):Int):=by
    unfold Lib.atoiAll
    simp only [if_neg (show ¬ (b.toNat=43\/b.toNat=45) by omega),Lib.parseMag,if_neg (show ¬ (b :: l=[]) by simp),hp]
    rw [if_neg uu0,if_neg uu0,if_neg uu0]
   rw [ea]
   have ei:Lib.itoa (valL 0 (b :: l):Int)=b :: l:=by
    rw [itoa_nn _ uu0,Rn,hd]
   simp only [ei]
   rw [Qs uu0]
   simp
 | false =>
  unfold decN
  cases ha:Lib.atoiAll s.data.toList with
  | ok v =>
   by_cases h0:0<=v
   ·have e:(Lib.itoa v==s.data.toList)=false:=by
     rw [Qx]
     intro e
     rw [itoa_nn v h0] at e
     rw [<- e,dec_neat] at hn
     cases hn
    simp only [e,Sj]; rfl
   ·simp only [Qq h0,Tq]; rfl
  | _=>rfl
theorem u8sub (b:UInt8) (h:isDig b=true):IntKind.i64.wrap (IntKind.u8.wrap ((b.toNat:Int)-48))=((b.toNat-48:Nat):Int):=by
 have hd:=dig_of h
 have e:IntKind.u8.wrap ((b.toNat:Int)-48)=((b.toNat:Int)-48)%256:=by
  simp [IntKind.wrap,IntKind.signed,IntKind.bits]
 rw [e,wrap_of uu0 uu0]
 omega
theorem dig_test (b:UInt8):decide ((48:Int)<=(b.toNat:Int)/\(b.toNat:Int)<=57)=isDig b:=by
 unfold isDig
 congr 1
 exact propext ⟨fun h=>by omega,fun h=>by omega⟩
theorem num_step (s:Za) (a i:Nat) (hi:i<s.size) (ha:a<=100000000) (b:UInt8) (hb:s.data.toList.getD i 0=b):F123_s0 s ((a:Int),(i:Int)) =
  if isDig b=false then .ret (-1) else .next (((a*10+(b.toNat-48):Nat):Int),((i+1:Nat):Int)):=by
 simp only [F123_s0,Qs (show (i:Int)<(s.size:Int) by omega),Qc,Rn,getD_list,hb,wrap_u8,dig_test]
 cases hd:isDig b with
 | false=>rfl
 | true =>
  have h1:=dig_of hd
  rw [u8sub b hd,wrap_of (n:=(a:Int)*10) uu0 uu0,wrap_of uu0 uu0]
  simp only [Sa,Qh,Bool.true_eq_false,G1]
  congr 2
theorem num_loop (s:Za):∀ (m i a:Nat),i+m=s.size->(a+1)*10 ^ m<=10000000->∀ fuel,m<fuel ->
  (runL (F123_s0 s) fuel ((a:Int),(i:Int))).fin (fun r=>r) (fun (n,i40)=>n)=bif (s.data.toList.drop i).all isDig then (valL a (s.data.toList.drop i):Int) else -1
 | m,i,a,_,_,0,hf=>absurd hf (Sd _)
 | 0,i,a,h,_,fuel+1,hf=>by
  have hl:s.data.toList.length=s.size:=Q9
  have hst:F123_s0 s ((a:Int),(i:Int))=.done ((a:Int),(i:Int)):=by
   simp only [F123_s0,Qq (show ¬ (i:Int)<(s.size:Int) by omega),Qh]
  rw [runL_d _ hst,Q8 uu0]
  rfl
 | m+1,i,a,h,ha,fuel+1,hf=>by
  have hl:s.data.toList.length=s.size:=Q9
  have hb:s.data.toList.drop i=s.data.toList.getD i 0 :: s.data.toList.drop (i+1):=by
   rw [Rk uu0,Qd,Qe uu0]; rfl
  have hp:1<=10 ^ m:=Nat.one_le_pow _ _ uu0
  have e:(a+1)*10 ^ (m+1)=((a+1)*10)*10 ^ m:=by
   rw [Nat.pow_succ,Gc (10 ^ m) 10,Nat.mul_assoc]
  rw [e] at ha
  have h1:(a+1)*10<=10000000:=Q0 (Ga _ hp) ha
  have hst:=num_step s a i uu0 uu0 _ rfl
  rw [hb,Ru]
  generalize s.data.toList.getD i 0=b at hst ⊢
  by_cases hd:isDig b=false
  ·rw [if_pos hd] at hst
   rw [runL_r _ hst,hd]; rfl
  ·rw [if_neg hd] at hst
   have hd':isDig b=true:=by simpa using hd
   have hg:=dig_of hd'
   rw [runL_n _ hst,num_loop s m (i+1) _ uu0 (Q0 (Ra _ uu0) ha) fuel uu0,hd',Sy]
   rfl
theorem specNum_eq (s:Za):F123 s=num6 s.data.toList:=by
 have hl:s.data.toList.length=s.size:=Q9
 unfold F123 num6
 by_cases h1:(1:Int)<=(s.size:Int)/\(s.size:Int)<=6
 ·rw [Qs h1,Qs (show s.data.toList.length<=6 by omega),Sz,Sa,Qh,getD_list]
  have hp:(0+1)*10 ^ s.size<=10000000:=by
   have:10 ^ s.size<=10 ^ 6:=Gu uu0 uu0
   omega
  have hlp:=num_loop s s.size 0 0 uu0 hp (Int.toNat ((s.size:Int)-0)+1) uu0
  rw [R8] at hlp
  have hne:s.data.toList.isEmpty=false:=by
   cases hs:s.data.toList with
   | nil=>rw [hs] at hl; simp only [Rw] at hl; omega
   | cons b l=>rfl
  have e48:=u8_eq (s.data.toList.getD 0 0) 48
  have h48:((48:UInt8).toNat:Int)=48:=rfl
  rw [h48] at e48
  have e0:(Int.toNat 0)=0:=rfl
  rw [e0,e48,neatN,hne]
  have eq:(s.data.toList.getD 0 0==(48:UInt8))=decide (s.data.toList.getD 0 0=48):=by
   cases h:decide (s.data.toList.getD 0 0=48) with
   | true=>exact Sp.2 (Qb h)
   | false=>exact Qx.2 (Qw h)
  rw [eq]
  have eg:decide ((s.size:Int)>1)=decide (s.data.toList.length>1):=by
   by_cases hg:s.size>1
   ·rw [Qs uu0,Qs uu0]
   ·rw [Qq uu0,Qq uu0]
  rw [eg]
  refine (Qg (fun z=>bif (bif decide (s.data.toList.length>1) then decide (s.data.toList.getD 0 0=48) else false) then (-1:Int) else z) hlp).trans ?_
  cases decide (s.data.toList.length>1) <;> cases decide (s.data.toList.getD 0 0=48) <;> cases s.data.toList.all isDig <;> rfl
 ·rw [Qq h1,Sx,Qc,Qc]
  by_cases h6:s.data.toList.length<=6
  ·have hz:s.data.toList=[]:=List.length_eq_zero_iff.1 uu0
   rw [hz]; rfl
  ·rw [Qq h6,Sj]; rfl
theorem dec_len:∀ (k u:Nat),u<10 ^ (k+1)->(Lib.decDigits u).length<=k+1
 | 0,u,h=>by
  rw [Lib.decDigits_one (by simpa using h)]; exact Qp _
 | k+1,u,h=>by
  by_cases hu:u<10
  ·rw [Lib.decDigits_one hu]; exact G8 (Rj _)
  ·have h1:u / 10<10 ^ (k+1):=by
    rw [Nat.pow_succ] at h
    exact Nat.div_lt_of_lt_mul (by rw [Gc]; exact h)
   rw [Lib.decDigits,dif_neg hu,Q6]
   exact G8 (dec_len k _ h1)
theorem decN_cases (s:Za):decN s=-1\/∃ u:Nat,decN s=(u:Int)/\Lib.decDigits u=s.data.toList:=by
 unfold decN
 cases ha:Lib.atoiAll s.data.toList with
 | ok v =>
  by_cases h0:0<=v
  ·cases he:(Lib.itoa v==s.data.toList) with
   | true =>
    refine .inr ⟨v.toNat,?_,?_⟩
    ·simp only [Qs h0,he,Sz,Qc]
     omega
    ·rw [<- itoa_nn v h0]; exact Sp.1 he
   | false=>refine .inl ?_; simp only [he,Sj]; rfl
  ·refine .inl ?_; simp only [Qq h0,Tq]; rfl
 | _=>exact .inl rfl
theorem decN_low (s:Za) (h:decN s<=999999):decN s=num6 s.data.toList:=by
 have hl:s.data.toList.length=s.size:=Q9
 by_cases hs:s.size<=6
 ·exact decN_six s hs
 ·have e:num6 s.data.toList=-1:=by
   unfold num6
   rw [Qq (show ¬ s.data.toList.length<=6 by omega),Sj]; rfl
  rw [e]
  rcases decN_cases s with h1 | ⟨u,h1,h2⟩
  ·exact h1
  ·have h3:=dec_len 5 u (by rw [h1] at h; have:10 ^ (5+1)=1000000:=rfl; omega)
   rw [h2] at h3
   omega
theorem num6_lt (l:List UInt8):num6 l<=999999:=by
 unfold num6
 cases h:neatN l&&decide (l.length<=6) with
 | false=>rw [Qh]; omega
 | true =>
  rw [Qc]
  rw [Qn] at h
  have hn:=h.1
  unfold neatN at hn
  simp only [Qn] at hn
  have h1:=valL_lt l 0 hn.1.2
  have h2:10 ^ l.length<=10 ^ 6:=Gu uu0 (Qb h.2)
  omega
def in255 (v:Int):Bool:=decide (0<=v/\v<=255)
def addr2:List (List UInt8)->Int
 | [a,b]=>bif in255 (num6 a)&&in255 (num6 b) then 256*num6 a+num6 b else -1
 | _=>-1
def addrL (l:List UInt8):Int:=addr2 (splitL 46 l)
theorem wrap_addr (x y:Int) (hx:in255 x=true) (hy:in255 y=true):IntKind.i64.wrap (IntKind.i64.wrap (256*x)+y)=256*x+y:=by
 have h1:=Qb hx
 have h2:=Qb hy
 rw [wrap_of (n:=256*x) uu0 uu0,wrap_of uu0 uu0]
theorem specAddr_eq (s:Za):F120 s=addrL s.data.toList:=by
 have hc:F137 s 46=(splitL 46 s.data.toList).map mkB:=specCut_eq s 46
 unfold F120 addrL
 rw [hc]
 simp only [specNum_eq]
 cases splitL 46 s.data.toList with
 | nil=>rfl
 | cons a t=>cases t with
  | nil=>rfl
  | cons b t=>cases t with
   | nil =>
    show (bif (bif (!(in255 (num6 a))) then true else (!(in255 (num6 b)))) then (-1) else (IntKind.i64.wrap ((IntKind.i64.wrap (256*num6 a))+num6 b)))=bif in255 (num6 a)&&in255 (num6 b) then 256*num6 a+num6 b else -1
    cases ha:in255 (num6 a) <;> cases hb:in255 (num6 b) <;> try rfl
    exact wrap_addr _ _ ha hb
   | cons c t =>
    have:(((List.map mkB (a :: b :: c :: t)).length:Int) != 2)=true:=by
     rw [G6]
     simp only [Rb,Q4,Sc]
     omega
    rw [this]; rfl
theorem addrL_ge (l:List UInt8):-1<=addrL l/\addrL l<=65535:=by
 unfold addrL
 cases splitL 46 l with
 | nil=>exact ⟨Int.le_refl _,(show (-1:Int)<=65535 by omega)⟩
 | cons a t=>cases t with
  | nil=>exact ⟨Int.le_refl _,(show (-1:Int)<=65535 by omega)⟩
  | cons b t=>cases t with
   | nil =>
    show -1<=(bif in255 (num6 a)&&in255 (num6 b) then 256*num6 a+num6 b else -1)/\(bif in255 (num6 a)&&in255 (num6 b) then 256*num6 a+num6 b else -1)<=65535
    cases h:in255 (num6 a)&&in255 (num6 b) with
    | false=>simp only [Qh]; omega
    | true =>
     rw [Qn] at h
     have h1:=Qb h.1
     have h2:=Qb h.2
     simp only [Qc]; omega
   | cons c t=>exact ⟨Int.le_refl _,(show (-1:Int)<=65535 by omega)⟩
theorem dec255 (s:Za):in255 (decN s)=in255 (num6 s.data.toList)/\(in255 (decN s)=true->decN s=num6 s.data.toList):=by
 by_cases h:decN s<=999999
 ·rw [decN_low s h]; exact ⟨rfl,fun _=>rfl⟩
 ·have h1:in255 (decN s)=false:=Qq uu0
  have h2:num6 s.data.toList=-1:=by
   rcases decN_cases s with h3 | ⟨u,h3,h4⟩
   ·omega
   ·have hl:¬ s.data.toList.length<=6:=fun hle=>by
     have hl:s.data.toList.length=s.size:=Q9
     have:=decN_six s uu0
     have:=num6_lt s.data.toList
     omega
    unfold num6
    rw [Qq hl,Sj]; rfl
  rw [h1,h2]
  exact ⟨rfl,fun h=>by cases h⟩
theorem dig_no46:∀ l:List UInt8,46∈l->neatN l=false:=by
 intro l hm
 cases h:neatN l with
 | false=>rfl
 | true =>
  unfold neatN at h
  simp only [Qn] at h
  have:=dig_of (Re.1 h.1.2 _ hm)
  have e:(46:UInt8).toNat=46:=rfl
  omega
theorem num6_no46 {l:List UInt8} (h:46∈l):num6 l=-1:=by
 unfold num6
 rw [dig_no46 l h,Tq]; rfl
theorem implAddr_eq (s:Za):F111 s=addrL s.data.toList:=by
 have e209:∀ t:Za,F134 t=decN t:=fun _=>rfl
 have e87:∀ t u:Za,F96 t u=cut3 t u:=fun _ _=>rfl
 unfold F111 addrL
 simp only [e209,e87]
 rcases cut_cases s 46 with ⟨h1,h2⟩ | ⟨a,b,h1,h2,h3⟩
 ·rw [h2,splitL_none h1]; rfl
 ·rw [h3,h1,splitL_app b h2]
  show (bif (bif (!true) then true else (!(in255 (decN (mkB a))))) then true else (!(in255 (decN (mkB b))))) |> fun z=>(bif z then (-1) else (IntKind.i64.wrap ((IntKind.i64.wrap (256*decN (mkB a)))+decN (mkB b))))=addr2 (a :: splitL 46 b)
  have da:=dec255 (mkB a)
  have db:=dec255 (mkB b)
  rw [mkB_data] at da db
  rw [da.1,db.1]
  by_cases hb:(46:UInt8)∈b
  ·have hn:num6 b=-1:=num6_no46 hb
   have e2:in255 (num6 b)=false:=by rw [hn]; rfl
   rw [e2]
   have e3:∃ x y t,splitL 46 b=x :: y :: t:=by
    rcases index_split 46 b with ⟨_,h⟩ | ⟨x,y,hx,hx2,_⟩
    ·exact absurd hb h
    ·rw [hx,splitL_app y hx2]
     cases hs:splitL 46 y with
     | nil =>
      cases y with
      | nil=>cases hs
      | cons c y =>
       rw [splitL] at hs
       split at hs
       ·cases hs
       ·split at hs <;> cases hs
     | cons p t=>exact ⟨_,_,_,rfl⟩
   obtain ⟨x,y,t,e3⟩:=e3
   rw [e3]
   cases in255 (num6 a) <;> rfl
  ·rw [splitL_none hb]
   show _=bif in255 (num6 a)&&in255 (num6 b) then 256*num6 a+num6 b else -1
   cases ha:in255 (num6 a) <;> cases hb2:in255 (num6 b) <;> try rfl
   have h4:=da.2 (by rw [da.1]; exact ha)
   have h5:=db.2 (by rw [db.1]; exact hb2)
   rw [h4,h5]
   exact wrap_addr _ _ ha hb2
theorem addr_same (s:Za):F111 s=F120 s:=(implAddr_eq s).trans (specAddr_eq s).symm
def in16 (v:Int):Bool:=decide (0<=v/\v<=16)
def pfx2:List (List UInt8)->Option (Int×Int)
 | [a,b]=>bif decide (0<=addrL a)&&(in16 (num6 b)&&((addrL a).tmod (F138 (num6 b))==0)) then some (addrL a,num6 b) else none
 | _=>none
def pfxL (l:List UInt8):Option (Int×Int):=pfx2 (splitL 47 l)
theorem specPfx_eq (s:Za):F118 s=match pfxL s.data.toList with | some (a,n)=>(a,F138 n) | none=>(-1,0):=by
 have hc:F137 s 47=(splitL 47 s.data.toList).map mkB:=specCut_eq s 47
 unfold F118 pfxL
 rw [hc]
 simp only [specNum_eq,specAddr_eq]
 cases splitL 47 s.data.toList with
 | nil=>rfl
 | cons a t=>cases t with
  | nil=>rfl
  | cons b t=>cases t with
   | nil =>
    show (bif (bif decide (addrL a<0) then true else (!(in16 (num6 b)))) then ((-1:Int),(0:Int)) else (bif ((addrL a).tmod (F138 (num6 b)) != 0) then ((-1),0) else (addrL a,F138 (num6 b))))=match pfx2 [a,b] with | some (a,n)=>(a,F138 n) | none=>(-1,0)
    have e:decide (addrL a<0)=!decide (0<=addrL a):=by
     by_cases h:0<=addrL a
     ·rw [Qs h,Qq uu0]; rfl
     ·rw [Qq h,Qs uu0]; rfl
    rw [e,bne,pfx2]
    cases decide (0<=addrL a) <;> cases in16 (num6 b) <;> cases ((addrL a).tmod (F138 (num6 b))==0) <;> rfl
   | cons c t =>
    have:(((List.map mkB (a :: b :: c :: t)).length:Int) != 2)=true:=by
     rw [G6]
     simp only [Rb,Q4,Sc]
     omega
    rw [this]; rfl
theorem pfx2_nn {ws:List (List UInt8)} {a n:Int} (h:pfx2 ws=some (a,n)):0<=a/\a<=65535/\0<=n/\n<=16:=by
 cases ws with
 | nil=>cases h
 | cons x t=>cases t with
  | nil=>cases h
  | cons y t=>cases t with
   | cons z t=>cases h
   | nil =>
    rw [pfx2] at h
    cases hc:decide (0<=addrL x)&&(in16 (num6 y)&&((addrL x).tmod (F138 (num6 y))==0)) with
    | false=>rw [hc] at h; cases h
    | true =>
     rw [hc] at h
     simp only [Qc,Qa,Q5] at h
     simp only [Qn] at hc
     have h1:=Qb hc.1
     have h2:=Qb hc.2.1
     have h3:=addrL_ge x
     omega
theorem specIsPfx_eq (s:Za):F127 s=(pfxL s.data.toList).isSome:=by
 unfold F127
 rw [specPfx_eq]
 cases h:pfxL s.data.toList with
 | none=>rfl
 | some p =>
  obtain ⟨a,n⟩:=p
  exact Qs (pfx2_nn h).1
theorem size_same (a n:Int) (h1:0<=n) (h2:n<=16):F145 (⟨a,n⟩:NetPrefix)=F138 n:=by
 have h3:n=0\/n=1\/n=2\/n=3\/n=4\/n=5\/n=6\/n=7\/n=8\/n=9\/n=10\/n=11\/n=12\/n=13\/n=14\/n=15\/n=16:=by omega
 rcases h3 with rfl | rfl | rfl | rfl | rfl | rfl | rfl | rfl | rfl | rfl | rfl | rfl | rfl | rfl | rfl | rfl | rfl <;> exact Qb rfl
theorem dec16 (s:Za):in16 (decN s)=in16 (num6 s.data.toList)/\(in16 (decN s)=true->decN s=num6 s.data.toList):=by
 by_cases h:decN s<=999999
 ·rw [decN_low s h]; exact ⟨rfl,fun _=>rfl⟩
 ·have h1:in16 (decN s)=false:=Qq uu0
  have h2:num6 s.data.toList=-1:=by
   rcases decN_cases s with h3 | ⟨u,h3,h4⟩
   ·omega
   ·have hl:¬ s.data.toList.length<=6:=fun hle=>by
     have hl:s.data.toList.length=s.size:=Q9
     have:=decN_six s uu0
     have:=num6_lt s.data.toList
     omega
    unfold num6
    rw [Qq hl,Sj]; rfl
  rw [h1,h2]
  exact ⟨rfl,fun h=>by cases h⟩
theorem num6_no {l:List UInt8} {c:UInt8} (hc:isDig c=false) (h:c∈l):num6 l=-1:=by
 have hn:neatN l=false:=by
  cases hh:neatN l with
  | false=>rfl
  | true =>
   unfold neatN at hh
   simp only [Qn] at hh
   rw [Re.1 hh.1.2 _ h] at hc
   cases hc
 unfold num6
 rw [hn,Tq]; rfl
theorem split_two {c:UInt8} {b:List UInt8} (hb:c∈b):∃ x y t,splitL c b=x :: y :: t:=by
 rcases index_split c b with ⟨_,h⟩ | ⟨x,y,hx,hx2,_⟩
 ·exact absurd hb h
 ·rw [hx,splitL_app y hx2]
  cases hs:splitL c y with
  | nil =>
   cases y with
   | nil=>cases hs
   | cons d y =>
    rw [splitL] at hs
    split at hs
    ·cases hs
    ·split at hs <;> cases hs
  | cons p t=>exact ⟨_,_,_,rfl⟩
theorem netOk_eq (a n:Int) (ha:-1<=a/\a<=65535):F135 (⟨a,n⟩:NetPrefix)=(decide (0<=a)&&(in16 n&&(a.tmod (F138 n)==0))):=by
 unfold F135
 by_cases hn:0<=n/\n<=16
 ·have e:F145 (⟨a,n⟩:NetPrefix)=F138 n:=size_same a n hn.1 hn.2
  have e16:in16 n=true:=Qs hn
  simp only [e,Qs hn,e16,Qc,Sy]
  by_cases h0:0<=a
  ·rw [Qs h0,Qs (show 0<=a/\a<=65535 by omega)]; rfl
  ·rw [Qq h0,Qq (show ¬ (0<=a/\a<=65535) by omega)]; rfl
 ·have e16:in16 n=false:=Qq hn
  simp only [Qq hn,e16,Qh,Tq,Sj]
theorem implPfx_eq (s:Za):F108 s=match pfxL s.data.toList with | some (a,n)=>(⟨a,n⟩,true) | none=>(⟨0,0⟩,false):=by
 have e209:∀ t:Za,F134 t=decN t:=fun _=>rfl
 have e87:∀ t u:Za,F96 t u=cut3 t u:=fun _ _=>rfl
 unfold F108 pfxL
 simp only [e209,e87,implAddr_eq]
 rcases cut_cases s 47 with ⟨h1,h2⟩ | ⟨a,b,h1,h2,h3⟩
 ·rw [h2,splitL_none h1]; rfl
 ·rw [h3,h1,splitL_app b h2]
  have ea:(⟨a.toArray⟩:Za)=mkB a:=rfl
  have eb:(⟨b.toArray⟩:Za)=mkB b:=rfl
  have d:=dec16 (mkB b)
  simp only [ea,eb,mkB_data,netOk_eq _ _ (addrL_ge a),Sa,Qh] at d ⊢
  by_cases hb:(47:UInt8)∈b
  ·have hn:num6 b=-1:=num6_no rfl hb
   have e2:in16 (decN (mkB b))=false:=by rw [d.1,hn]; rfl
   obtain ⟨x,y,t,e3⟩:=split_two hb
   rw [e2,e3,Tq,Sj]
   rfl
  ·rw [splitL_none hb,pfx2]
   cases h16:in16 (decN (mkB b)) with
   | false =>
    rw [<- d.1,h16]
    cases decide (0<=addrL a) <;> rfl
   | true =>
    have e4:=d.2 h16
    rw [<- d.1,h16,e4,Sy]
    cases decide (0<=addrL a)&&((addrL a).tmod (F138 (num6 b))==0) <;> rfl
theorem isPfx_same (s:Za):(F108 s).2=F127 s:=by
 rw [implPfx_eq,specIsPfx_eq]
 cases pfxL s.data.toList with
 | none=>rfl
 | some p=>rfl
def F73_s0 (word:Za):Int->Lp Int Bool:=fun i40 =>
 bif (decide (i40<(word.size:Int))) then (bif (bif (bif (((word.data.getD i40.toNat 0).toNat:Int) != 45) then (bif decide (((word.data.getD i40.toNat 0).toNat:Int)<97) then true else decide (((word.data.getD i40.toNat 0).toNat:Int)>122)) else false) then (bif decide (((word.data.getD i40.toNat 0).toNat:Int)<48) then true else decide (((word.data.getD i40.toNat 0).toNat:Int)>57)) else false) then (.ret false) else (.next (i40+1))) else (.done i40)
def F73 (word:Za):Bool :=
 (runL (F73_s0 word) (((word.size:Int)-0).toNat+1) 0).fin (fun r=>r) (fun i40=>(decide (1<=(word.size:Int)/\(word.size:Int)<=8)))
abbrev lN73_0 (word:Za):Nat×Int:=((((word.size:Int)-0).toNat+1),0)
abbrev lI73_0 (word:Za) (m39:Nat) (i40:Int):Prop:=Int.toNat ((word.size:Int)-i40)<m39/\(0:Int)<=i40
abbrev lX73_0 (word:Za):Lp Int Bool:=LpX (F73_s0 word) (lN73_0 word)
abbrev lJ73_0 (word:Za) (i:Nat×Int):Prop:=LpJ (F73_s0 word) (lN73_0 word) i (lI73_0 word i.1 i.2)
abbrev lH73_0 (word:Za) (i:Nat×Int) (m39:Nat) (i40:Int):Prop:=LpH (F73_s0 word) (lN73_0 word) i m39 i40 (lI73_0 word (m39+1) i40)
abbrev lE73_0 (word:Za) (i40:Int) (i40_:Int) (K39:Prop):Prop:=(Rf (.string word))/\((.int .i64 i40:Value)=.int .i64 i40_)/\K39
theorem un73_0 (word:Za) (i:Nat×Int) (h:lJ73_0 word i):lH73_0 word i (i.1-1) i.2:=⟨hd1 h.1 h.2.1,hd3 h.2.1,hd2 h.2.1,h.2.2⟩
theorem bk73_0 (word:Za) (i:Nat×Int) (m39:Nat) (i40:Int) (hl:m39<i.1) (e:runL (F73_s0 word) m39 i40=lX73_0 word) (h:lI73_0 word m39 i40):∃ j:Nat×Int,lE73_0 word i40 j.2 (lJ73_0 word j/\j.1<i.1):=⟨(m39,i40),rfl,rfl,⟨e,h⟩,hl⟩
theorem en73_0 (word:Za) (h:(0:Int)<=0):lE73_0 word 0 0 (lJ73_0 word (lN73_0 word)):=⟨rfl,rfl,rfl,Qt _,h⟩
def S73 (word:Za):Spec:=⟨[.r (.c (.v (.string word)))],.v (.bool (F73 word)),word.size<=1048576⟩
theorem ok73 (word:Za):(S73 word).ok Tryz.prog 73 :=
 fnG_ok mixed (fn:=Tryz.f73) (ct:=.seq .no (.seq (.seq .no (.blk (.loop (ι:=Nat×Int) (fun i=>(fun (i40:Int)=>(⟨[(0,some (.v (.string word))),(3,some (.v (vI i40)))],[],0⟩:St)) i.2) (lJ73_0 word) (fun i=>i.1) (lN73_0 word) (fun i=>(fun (i40:Int)=>(.seq (.seq .no (.cond .no .no)) (.seq (.blk (.seq .no (.seq .no (.cond (.seq .no .no) .no)))) (.reg [(1,.bnd)])))) i.2)))) (.seq (.reg [(2,kh97a (word.size:Int) 1 8)]) .no))) Tryz.func73 (fun (hpre0:word.size<=1048576)=>ai (en73_0 word uu0) (fun (i0:Nat×Int) (hi0:lJ73_0 word i0)=>(fun (m0:Nat) (i40:Int) (hh0:lH73_0 word i0 m0 i40)=>have hI0:=hh0.1; have hl0:=hh0.2.1; have _:=hh0.2.2.1; have _:=hh0.2.2.2; ifd (i40<(word.size:Int)) (fun h2 _=>ai (uu0:0<=i40/\i40<(word.size:Int)) (ifb (bif (bif (((word.data.getD i40.toNat 0).toNat:Int) != 45) then (bif decide (((word.data.getD i40.toNat 0).toNat:Int)<97) then true else decide (((word.data.getD i40.toNat 0).toNat:Int)>122)) else false) then (bif decide (((word.data.getD i40.toNat 0).toNat:Int)<48) then true else decide (((word.data.getD i40.toNat 0).toNat:Int)>57)) else false) (fun h3=>have _:=bneT (andT1 (andT1 h3)); fiB false (F73 word) (finR (runL_ret hI0 (condT h2 (condT h3 rfl))) rfl)) (fun h3=>ai (iok (i40+1) uu0) (bk73_0 word i0 m0 (i40+1) hl0 (runL_next hI0 (condT h2 (condF h3 rfl))) uu7)))) (fun h2 _=>have hD0_4:lX73_0 word=Lp.done i40:=runL_done hI0 (condF h2 rfl); kc97a (word.size:Int) 1 8 (fiB (decide (1<=(word.size:Int)/\(word.size:Int)<=8)) (F73 word) (finD hD0_4 rfl)))) (i0.1-1) i0.2 (un73_0 word i0 hi0))) uu2
theorem kc107 (word:Za) {K_:Prop} (p0_:word.size<=1048576) (k_:K_):(word.size<=1048576)/\(Imp (.v (.string word)) (.v (.string word)))/\K_:=⟨p0_,Imp.refl _,k_⟩
abbrev kh107 (word:Za):Hint true Tryz.prog:=.call 107 (S107 word) (ok107 word) none
def F74 (word:Za):Bool :=
 (F107 word).2
def S74 (word:Za):Spec:=⟨[.r (.c (.v (.string word)))],.v (.bool (F74 word)),word.size<=1048576⟩
theorem ok74 (word:Za):(S74 word).ok Tryz.prog 74 :=
 fnG_ok mixed (fn:=Tryz.f74) (ct:=.seq .no (.seq (.reg [(1,kh107 word)]) (.seq .no .no))) Tryz.func74 (fun (hpre0:word.size<=1048576)=>kc107 word uu0 (fiB (F107 word).2 (F74 word) rfl)) uu2
theorem kc108 (text:Za) {K_:Prop} (p0_:text.size<=1048576) (k_:K_):(text.size<=1048576)/\(Imp (.v (.string text)) (.v (.string text)))/\K_:=⟨p0_,Imp.refl _,k_⟩
abbrev kh108 (text:Za):Hint false Tryz.prog:=.call 108 (S108 text) (ok108 text) none
def F75 (word:Za):Bool :=
 (F108 word).2
def S75 (word:Za):Spec:=⟨[.r (.c (.v (.string word)))],.v (.bool (F75 word)),word.size<=1048576⟩
theorem ok75 (word:Za):(S75 word).ok Tryz.prog 75 false :=
 fnG_ok mixed (fn:=Tryz.f75) (ct:=.seq .no (.seq (.reg [(1,kh108 word)]) (.seq .no .no))) Tryz.func75 (fun (hpre0:word.size<=1048576)=>kc108 word uu0 (fiB (F108 word).2 (F75 word) rfl)) uu2
def F77 (word:Za):Bool :=
 decide ((F111 word)>=0)
def S77 (word:Za):Spec:=⟨[.r (.c (.v (.string word)))],.v (.bool (F77 word)),word.size<=1048576⟩
theorem ok77 (word:Za):(S77 word).ok Tryz.prog 77 false :=
 fnG_ok mixed (fn:=Tryz.f77) (ct:=.seq .no (.seq (.reg [(1,kh111 word)]) .no)) Tryz.func77 (fun (hpre0:word.size<=1048576)=>kc111 word uu0 (fiB (decide ((F111 word)>=0)) (F77 word) rfl)) uu2
def F106 (word:Za):Int :=
 bif (decide ((word.size:Int)>6)) then (-1) else (F134 word)
def S106 (word:Za):Spec:=⟨[.r (.c (.v (.string word)))],.v (vI (F106 word)),word.size<=1048576⟩
theorem ok106 (word:Za):(S106 word).ok Tryz.prog 106 false :=
 fnG_ok mixed (fn:=Tryz.f106) (ct:=.seq .no (.seq (.seq .no (.cond (.seq .no .no) .no)) (.seq (.reg [(1,kh134 word)]) .no))) Tryz.func106 (fun (hpre0:word.size<=1048576)=>ifd ((word.size:Int)>6) (fun h1 _=>fiI (-1) (F106 word) (condT h1 rfl)) (fun h1 _=>kc134 word uu0 (fiI (F134 word) (F106 word) (condF h1 rfl)))) uu2
theorem scan_loop (s:Za) (st:Int->Lp Int Bool) (p:UInt8->Bool) (y:Bool)
  (h1:∀ (i:Nat),i<s.size->∀ b,s.data.toList.getD i 0=b->st (i:Int)=bif p b then .next ((i+1:Nat):Int) else .ret false)
  (h2:st (s.size:Int)=.done (s.size:Int)):∀ (m i:Nat),i+m=s.size->∀ fuel,m<fuel->(runL st fuel (i:Int)).fin (fun r=>r) (fun _=>y)=bif (s.data.toList.drop i).all p then y else false
 | m,i,_,0,hf=>absurd hf (Sd _)
 | 0,i,h,fuel+1,hf=>by
  have hl:s.data.toList.length=s.size:=Q9
  obtain rfl:i=s.size:=by omega
  rw [runL_d _ h2,Q8 uu0]
  rfl
 | m+1,i,h,fuel+1,hf=>by
  have hl:s.data.toList.length=s.size:=Q9
  have hb:s.data.toList.drop i=s.data.toList.getD i 0 :: s.data.toList.drop (i+1):=by
   rw [Rk uu0,Qd,Qe uu0]; rfl
  have hst:=h1 i uu0 _ rfl
  rw [hb,Ru]
  generalize s.data.toList.getD i 0=b at hst ⊢
  cases hd:p b with
  | false =>
   rw [hd,Qh] at hst
   rw [runL_r _ hst]; rfl
  | true =>
   rw [hd,Qc] at hst
   rw [runL_n _ hst,scan_loop s st p y h1 h2 m (i+1) uu0 fuel uu0,Sy]
def nameB (b:UInt8):Bool:=decide (b.toNat=45) || decide (97<=b.toNat/\b.toNat<=122) || decide (48<=b.toNat/\b.toNat<=57)
def nameL (l:List UInt8):Bool:=decide (1<=l.length/\l.length<=8)&&l.all nameB
theorem bne45 (b:UInt8):((b.toNat:Int) != 45)=!decide (b.toNat=45):=by
 cases h:decide (b.toNat=45) with
 | true =>
  have:=Qb h
  rw [this]; rfl
 | false =>
  have:=Qw h
  rw [Sx,G6]; omega
theorem two_test (b:UInt8) (lo hi:Nat):(bif decide ((b.toNat:Int)<(lo:Int)) then true else decide ((b.toNat:Int)>(hi:Int)))=!decide (lo<=b.toNat/\b.toNat<=hi):=by
 by_cases h1:(b.toNat:Int)<(lo:Int)
 ·rw [Qs h1,Qc,Qq uu0]; rfl
 ·rw [Qq h1,Qh]
  by_cases h2:(b.toNat:Int)>(hi:Int)
  ·rw [Qs h2,Qq uu0]; rfl
  ·rw [Qq h2,Qs uu0]; rfl
theorem between (b:UInt8) (lo hi:Nat):decide ((lo:Int)<=(b.toNat:Int)/\(b.toNat:Int)<=(hi:Int))=decide (lo<=b.toNat/\b.toNat<=hi):=by
 congr 1
 exact propext ⟨fun h=>by omega,fun h=>by omega⟩
theorem implName_eq (s:Za):F73 s=nameL s.data.toList:=by
 have hl:s.data.toList.length=s.size:=Q9
 have h:=scan_loop s (F73_s0 s) nameB (decide (1<=(s.size:Int)/\(s.size:Int)<=8)) (fun i hi b hb=>by
  have a1:=two_test b 97 122
  have a2:=two_test b 48 57
  have c1:((97:Nat):Int)=97:=rfl
  have c2:((122:Nat):Int)=122:=rfl
  have c3:((48:Nat):Int)=48:=rfl
  have c4:((57:Nat):Int)=57:=rfl
  rw [c1,c2] at a1
  rw [c3,c4] at a2
  simp only [F73_s0,Qs (show (i:Int)<(s.size:Int) by omega),Qc,Rn,getD_list,hb,bne45,a1,a2,nameB]
  cases decide (b.toNat=45) <;> cases decide (97<=b.toNat/\b.toNat<=122) <;> cases decide (48<=b.toNat/\b.toNat<=57) <;> rfl)
  (by simp only [F73_s0,Qq (show ¬ (s.size:Int)<(s.size:Int) by omega),Qh]) s.size 0 uu0 (Int.toNat ((s.size:Int)-0)+1) uu0
 unfold F73
 refine h.trans ?_
 rw [R8,nameL]
 have e:decide ((1:Int)<=(s.size:Int)/\(s.size:Int)<=8)=decide (1<=s.data.toList.length/\s.data.toList.length<=8):=by
  congr 1
  exact propext ⟨fun h=>by omega,fun h=>by omega⟩
 rw [e]
 cases s.data.toList.all nameB <;> cases decide (1<=s.data.toList.length/\s.data.toList.length<=8) <;> rfl
theorem specName_eq (s:Za):F124 s=nameL s.data.toList:=by
 have hl:s.data.toList.length=s.size:=Q9
 have h:=scan_loop s (F124_s0 s) nameB true (fun i hi b hb=>by
  have a1:=between b 97 122
  have a2:=between b 48 57
  have c1:((97:Nat):Int)=97:=rfl
  have c2:((122:Nat):Int)=122:=rfl
  have c3:((48:Nat):Int)=48:=rfl
  have c4:((57:Nat):Int)=57:=rfl
  rw [c1,c2] at a1
  rw [c3,c4] at a2
  simp only [F124_s0,Qs (show (i:Int)<(s.size:Int) by omega),Qc,Rn,getD_list,hb,bne45,wrap_u8,a1,a2,nameB]
  cases decide (b.toNat=45) <;> cases decide (97<=b.toNat/\b.toNat<=122) <;> cases decide (48<=b.toNat/\b.toNat<=57) <;> rfl)
  (by simp only [F124_s0,Qq (show ¬ (s.size:Int)<(s.size:Int) by omega),Qh]) s.size 0 uu0 (Int.toNat ((s.size:Int)-0)+1) uu0
 unfold F124
 rw [R8] at h
 have e:decide ((1:Int)<=(s.size:Int)/\(s.size:Int)<=8)=decide (1<=s.data.toList.length/\s.data.toList.length<=8):=by
  congr 1
  exact propext ⟨fun h=>by omega,fun h=>by omega⟩
 rw [e,nameL]
 cases decide (1<=s.data.toList.length/\s.data.toList.length<=8) with
 | false=>rfl
 | true =>
  refine h.trans ?_
  cases s.data.toList.all nameB <;> rfl
theorem name_same (s:Za):F73 s=F124 s:=(implName_eq s).trans (specName_eq s).symm
def anyF (c:Nat->Bool):Nat->Nat->Bool
 | _,0=>false
 | i,m+1=>c i || anyF c (i+1) m
theorem any_loop {ρ τ:Type} (st:Int->Lp Int ρ) (n:Nat) (c:Nat->Bool) (bad:ρ) (f:ρ->τ) (y:τ) (h1:∀ i,i<n->st (i:Int)=bif c i then .ret bad else .next ((i+1:Nat):Int)) (h2:st (n:Int)=.done (n:Int)) :
  ∀ (m i:Nat),i+m=n->∀ fuel,m<fuel->(runL st fuel (i:Int)).fin f (fun _=>y)=bif anyF c i m then f bad else y
 | m,i,_,0,hf=>absurd hf (Sd _)
 | 0,i,h,fuel+1,hf=>by
  obtain rfl:i=n:=by omega
  rw [runL_d _ h2]; rfl
 | m+1,i,h,fuel+1,hf=>by
  have hst:=h1 i uu0
  rw [anyF]
  cases hd:c i with
  | true =>
   rw [hd,Qc] at hst
   rw [runL_r _ hst]; rfl
  | false =>
   rw [hd,Qh] at hst
   rw [runL_n _ hst,any_loop st n c bad f y h1 h2 m (i+1) uu0 fuel uu0,Ha]
theorem implHas_eq (ws:List Za) (x:Za):F110 ws x=ws.any fun e=>x.toList==e.toList:=by
 unfold F110
 rw [<- any_idx]
 congr 1
 exact Qg (·>=0) (idx_loop (fun e:Za=>x.toList==e.toList) ws (F136_s0 ws x) (fun i=>rfl))
theorem anyF_drop (ws:List Za) (p:Za->Bool):∀ (m i:Nat),i+m=ws.length->anyF (fun k=>p (ws.getD k default)) i m=(ws.drop i).any p
 | 0,i,h=>by rw [Q8 uu0]; rfl
 | m+1,i,h=>by
  rw [Rk uu0,Gi,anyF,anyF_drop ws p m (i+1) uu0,Qd,Qe uu0]
  rfl
theorem specHas_eq (ws:List Za) (x:Za):F38 ws x=ws.any fun e=>e.toList==x.toList:=by
 have h:=any_loop (F38_s0 ws x) ws.length (fun k=>(ws.getD k default).toList==x.toList) true (fun r=>r) false (fun i hi=>by
  simp only [F38_s0,Qs (show (i:Int)<(ws.length:Int) by omega),Qc,Rn]
  rfl) (by simp only [F38_s0,Qq (show ¬ (ws.length:Int)<(ws.length:Int) by omega),Qh]) ws.length 0 uu0 (Int.toNat ((ws.length:Int)-0)+1) uu0
 unfold F38
 refine h.trans ?_
 rw [anyF_drop ws (fun e=>e.toList==x.toList) ws.length 0 uu0,R8]
 cases (ws.any fun e=>e.toList==x.toList) <;> rfl
theorem has_same (ws:List Za) (x:Za):F110 ws x=F38 ws x:=by
 rw [implHas_eq,specHas_eq]
 congr 1
 funext e
 rw [G2,Sp,Sp]
 exact eq_comm
def rightBad (ws:List Za) (k:Nat):Bool:=bif (!(F38 F140 (ws.getD k default))) then true else (bif decide ((k:Int)>0) then (!(Op.bytesLess (ws.getD ((k:Int)-1).toNat default).toList (ws.getD k default).toList)) else false)
def rightsB (s:Za):Bool:=bif (bif (s.toList==Zt.toList) then true else (s.toList==Zu.toList)) then true else !anyF (rightBad (splitS s ⟨#[44]⟩)) 0 (splitS s ⟨#[44]⟩).length
theorem implRights_eq (s:Za):(F107 s).2=rightsB s:=by
 have e90:∀ t u:Za,F32 t u=splitS t u:=fun _ _=>rfl
 have h:=any_loop (F107_s0 s) (splitS s ⟨#[44]⟩).length (rightBad (splitS s ⟨#[44]⟩)) (([]:List Za),false) (fun r=>r) ((splitS s ⟨#[44]⟩),true) (fun i hi=>by
  have hh:=has_same F140 ((splitS s ⟨#[44]⟩).getD i default)
  unfold F140 at hh
  simp only [F107_s0,e90,Qs (show (i:Int)<((splitS s ⟨#[44]⟩).length:Int) by omega),Qc,Rn,hh]
  rfl) (by simp only [F107_s0,e90,Qq (show ¬ ((splitS s ⟨#[44]⟩).length:Int)<((splitS s ⟨#[44]⟩).length:Int) by omega),Qh]) (splitS s ⟨#[44]⟩).length 0 uu0 (Int.toNat (((splitS s ⟨#[44]⟩).length:Int)-0)+1) uu0
 unfold F107 rightsB
 cases (bif (s.toList==Zt.toList) then true else (s.toList==Zu.toList)) with
 | true=>rfl
 | false =>
  rw [Qh,Qh]
  refine (Qg (fun r:List Za×Bool=>r.2) h).trans ?_
  cases anyF (rightBad (splitS s ⟨#[44]⟩)) 0 (splitS s ⟨#[44]⟩).length <;> rfl
theorem specRights_eq (s:Za):F125 s=rightsB s:=by
 have hc:F137 s 44=splitS s ⟨#[44]⟩:=specCut_split s 44
 have h:=any_loop (F125_s0 s) (splitS s ⟨#[44]⟩).length (rightBad (splitS s ⟨#[44]⟩)) false (fun r=>r) true (fun i hi=>by
  simp only [F125_s0,hc,Qs (show (i:Int)<((splitS s ⟨#[44]⟩).length:Int) by omega),Qc,Rn]
  rfl) (by simp only [F125_s0,hc,Qq (show ¬ ((splitS s ⟨#[44]⟩).length:Int)<((splitS s ⟨#[44]⟩).length:Int) by omega),Qh]) (splitS s ⟨#[44]⟩).length 0 uu0 (Int.toNat (((splitS s ⟨#[44]⟩).length:Int)-0)+1) uu0
 unfold F125 rightsB
 rw [hc]
 cases (bif (s.toList==Zt.toList) then true else (s.toList==Zu.toList)) with
 | true=>rfl
 | false =>
  rw [Qh,Qh]
  refine h.trans ?_
  cases anyF (rightBad (splitS s ⟨#[44]⟩)) 0 (splitS s ⟨#[44]⟩).length <;> rfl
theorem rights_same (s:Za):(F107 s).2=F125 s:=(implRights_eq s).trans (specRights_eq s).symm
theorem number_eq (s:Za):F106 s=num6 s.data.toList:=by
 have hl:s.data.toList.length=s.size:=Q9
 have e209:F134 s=decN s:=rfl
 unfold F106
 by_cases h:s.size<=6
 ·rw [Qq (show ¬ (s.size:Int)>6 by omega),Qh,e209,decN_six s h]
 ·rw [Qs (show (s.size:Int)>6 by omega),Qc]
  unfold num6
  rw [Qq (show ¬ s.data.toList.length<=6 by omega),Sj]; rfl
theorem number_same (s:Za):F106 s=F123 s:=(number_eq s).trans (specNum_eq s).symm
theorem isAddr_same (s:Za):F77 s=decide (F120 s>=0):=by
 unfold F77
 rw [addr_same]
theorem isPrefix_same (s:Za):F75 s=F127 s:=isPfx_same s
theorem isRights_same (s:Za):F74 s=F125 s:=rights_same s
theorem joinS_loop (list:List Za) (sep:Za):∀ (m i:Nat) (out:Za),i+m=list.length->1<=i->∀ fuel,m<fuel ->
  ((runL (F95_s0 list sep) fuel (out,(i:Int))).fin (fun r=>r) (fun (out,i40)=>out)).data.toList=out.data.toList++Lib.joinTail sep.data.toList ((list.drop i).map (·.data.toList))
 | m,i,out,_,_,0,hf=>absurd hf (Sd _)
 | 0,i,out,h,h1,fuel+1,hf=>by
  have hst:F95_s0 list sep (out,(i:Int))=.done (out,(i:Int)):=by
   simp only [F95_s0,Qq (show ¬ (i:Int)<(list.length:Int) by omega),Qh]
  rw [runL_d _ hst,Q8 uu0]
  simp [Lib.joinTail,Lp.fin]
 | m+1,i,out,h,h1,fuel+1,hf=>by
  have hst:F95_s0 list sep (out,(i:Int))=.next ((out++sep)++list.getD i default,((i+1:Nat):Int)):=by
   simp only [F95_s0,Qs (show (i:Int)<(list.length:Int) by omega),Qs (show (i:Int)>0 by omega),Qc,Rn]
   rfl
  rw [runL_n _ hst,joinS_loop list sep m (i+1) _ uu0 uu0 fuel uu0]
  rw [Rk (show i<list.length by omega),Rb,Qd,Qe (show i<list.length by omega)]
  simp [Lib.joinTail,Gm,G0,Q3]
theorem specJoin_eq (list:List Za) (sep:Za):F95 list sep=joinS list sep:=by
 refine ba_ext ?_
 show _=Lib.join (list.map (·.data.toList)) sep.data.toList
 unfold F95
 cases list with
 | nil=>rfl
 | cons a t =>
  have hst:F95_s0 (a :: t) sep (Zc,0)=.next (Zc++a,((1:Nat):Int)):=by
   simp only [F95_s0,Qs (show (0:Int)<((a :: t).length:Int) by simp only [Q4]; omega),Qq (show ¬ (0:Int)>0 by omega),Qc,Qh]
   rfl
  rw [runL_n _ hst,joinS_loop (a :: t) sep t.length 1 _ uu33 uu0 _ uu33]
  rw [Gm,G0,List.drop_succ_cons,R8]
  exact (Lib.join_cons _ _ _).symm
theorem kc106 (word:Za) {K_:Prop} (p0_:word.size<=1048576) (k_:K_):(word.size<=1048576)/\(Imp (.v (.string word)) (.v (.string word)))/\K_:=⟨p0_,Imp.refl _,k_⟩
abbrev kh106 (word:Za):Hint false Tryz.prog:=.call 106 (S106 word) (ok106 word) none
def F105 (word:Za) (p1:Int) (p2:Int):Bool :=
 (decide (p1<=(F106 word)/\(F106 word)<=p2))
def S105 (word:Za) (p1:Int) (p2:Int):Spec:=⟨[.r (.c (.v (.string word))),.rp ([.v (vI p1)]),.rp ([.v (vI p2)])],.v (.bool (F105 word p1 p2)),word.size<=1048576⟩
theorem ok105 (word:Za) (p1:Int) (p2:Int):(S105 word p1 p2).ok Tryz.prog 105 false :=
 fnG_ok mixed (fn:=Tryz.f105) (ct:=.seq .no (.seq (.reg [(1,kh106 word),(4,kh97af (F106 word) p1 p2)]) .no)) Tryz.func105 (fun (hpre0:word.size<=1048576)=>kc106 word uu0 (kc97a (F106 word) p1 p2 (fiB (decide (p1<=(F106 word)/\(F106 word)<=p2)) (F105 word p1 p2) rfl))) uu2
def F72 (low:Int) (high:Int):Unit :=
 ()
def S72 (low:Int) (high:Int):Spec:=⟨[.r (.c (.v (vI low))),.r (.c (.v (vI high)))],.cl 105 [.pt 3 [.v (vI low)],.pt 3 [.v (vI high)]],True⟩
theorem ok72 (low:Int) (high:Int):(S72 low high).ok Tryz.prog 72 :=
 fnG_ok mixed (fn:=Tryz.f72) (ct:=.seq .no (.seq .no .no)) Tryz.func72 (fun (_:True)=>(fun hF:(():Unit)=(F72 low high)=>ai (Imps.refl [.v (vI low)]) (ai (Imps.refl [.v (vI high)]) trivial)) rfl) uu2
def F109 (word:Za) (p1:List Za):Bool :=
 (F110 p1 word)
def S109 (word:Za) (p1:List Za):Spec:=⟨[.r (.c (.v (.string word))),.rp ([.l 1 eStr p1])],.v (.bool (F109 word p1)),word.size<=1048576⟩
theorem ok109 (word:Za) (p1:List Za):(S109 word p1).ok Tryz.prog 109 :=
 fnG_ok mixed (fn:=Tryz.f109) (ct:=.seq .no (.seq (.reg [(2,kh110 p1 word)]) .no)) Tryz.func109 (fun (hpre0:word.size<=1048576)=>kc110 p1 word (fiB (F110 p1 word) (F109 word p1) rfl)) uu2
def F76 (words:List Za):Unit :=
 ()
def S76 (words:List Za):Spec:=⟨[.ow (.l 1 eStr words) none],.cl 109 [.pt 23 [.l 1 eStr words]],True⟩
theorem ok76 (words:List Za):(S76 words).ok Tryz.prog 76 :=
 fnG_ok mixed (fn:=Tryz.f76) (ct:=.seq .no (.seq .no .no)) Tryz.func76 (fun (_:True)=>(fun hF:(():Unit)=(F76 words)=>ai (Imps.refl [.l 1 eStr words]) trivial) rfl) uu2
structure formR where
 word:Za
 key:Int
 checks:SV
 deriving Inhabited
def eformR (x:formR):List Dat:=[.v (.string x.word),.v (vI x.key),.v (sv x.checks)]
def F79 (f:formR) (p1:Za):Bool :=
 (!(f.word.toList==p1.toList))
def S79 (f:formR) (p1:Za):Spec:=⟨[.r (.g (eformR f)),.rp ([.v (.string p1)])],.v (.bool (F79 f p1)),True⟩
theorem ok79 (f:formR) (p1:Za):(S79 f p1).ok Tryz.prog 79 :=
 fnG_ok mixed (fn:=Tryz.f79) (ct:=.seq .no (.seq .no .no)) Tryz.func79 (fun (_:True)=>(fun hF:((!(f.word.toList==p1.toList)):Bool)=(F79 f p1)=>ai (Qg (fun r:Bool=>(.bool r:Value)) hF) trivial) rfl) uu2
def fsQ100 (Q:formR->Prop) (p:formR->Bool):FnSpec:=⟨formR,fun i=>[.g (pxH (eformR i) (Q i))],fun i=>.bool (p i)⟩
def F112_s0 (s:List formR) (f:formR->Bool):Int->Lp Int Int:=fun v8 =>
 bif (decide (v8<(s.length:Int))) then (bif (f (s.getD v8.toNat default)) then (.ret v8) else (.next (v8+1))) else (.done v8)
def F112 (s:List formR) (f:formR->Bool):Int :=
 (runL (F112_s0 s f) (((s.length:Int)-0).toNat+1) 0).fin (fun r=>r) (fun v8=>(-1))
def S112 (R:Int) (s:List formR) (f:formR->Bool) (Qf:formR->Prop):Spec:=⟨[.r (.c (.l 3 eformR s)),.fn (fsQ100 Qf f)],.v (vI R),(∀ k:Nat,k<s.length->Qf (s.getD k default))⟩
theorem ok112 (s:List formR) (f:formR->Bool) (Qf:formR->Prop):(S112 (F112 s f) s f Qf).ok Tryz.prog 112 false :=
 fnG_ok mixed (fn:=Tryz.f112) (ct:=.seqk [(0,0)] .no (.seq (.seqk [(0,0)] .no (.blk (.loop (ι:=Nat×Int) (fun i=>(fun (v8:Int)=>(⟨[(0,some (.h 0 0)),(1,some (.h 1 0)),(7,some (.v (vI (s.length:Int)))),(8,some (.v (vI v8)))],[(0,some (.shr none (.l 3 eformR s))),(1,some (.fn (fsQ100 Qf f)))],2⟩:St)) i.2) (fun i=>runL (F112_s0 s f) i.1 i.2=(runL (F112_s0 s f) (((s.length:Int)-0).toNat+1) 0)/\(fun (v8:Int)=>(Int.toNat ((s.length:Int)-v8)<i.1/\(0:Int)<=v8)) i.2) (fun i=>i.1) ((((s.length:Int)-0).toNat+1),0) (fun i=>(fun (v8:Int)=>(.seq .no (.seq (.cond .no .no) (.seq (.blk (.seq .no (.seq (.reg [(5,.fnv (fsQ100 Qf f) (s.getD v8.toNat default))]) (.cond (.seq .no .no) .no)))) (.reg [(0,.bnd)]))))) i.2)))) (.seq .no .no))) Tryz.func112 (fun (hpre0:∀ k:Nat,k<s.length->Qf (s.getD k default))=>kn s fun _=>kn s fun _=>ai (ai rfl (ai rfl (ai ir (ai rfl (ai (rfl:runL (F112_s0 s f) (((s.length:Int)-0).toNat+1) 0=(runL (F112_s0 s f) (((s.length:Int)-0).toNat+1) 0)) (ai (Qt _:Int.toNat ((s.length:Int)-0)<(((s.length:Int)-0).toNat+1)) (uu0:(0:Int)<=0)))))):((.int .i64 (s.length:Int):Value)=.int .i64 (s.length:Int))/\((.int .i64 0:Value)=.int .i64 0)/\(Imp (.l 3 eformR s) (.l 3 eformR s))/\(fsQ100 Qf f=fsQ100 Qf f)/\(runL (F112_s0 s f) (((s.length:Int)-0).toNat+1) 0=(runL (F112_s0 s f) (((s.length:Int)-0).toNat+1) 0)/\Int.toNat ((s.length:Int)-0)<(((s.length:Int)-0).toNat+1)/\(0:Int)<=0)) (fun (i0:Nat×Int) (hi0:runL (F112_s0 s f) i0.1 i0.2=(runL (F112_s0 s f) (((s.length:Int)-0).toNat+1) 0)/\(fun (v8:Int)=>(Int.toNat ((s.length:Int)-v8)<i0.1/\(0:Int)<=v8)) i0.2)=>(fun (m0:Nat) (v8:Int) (hI0:runL (F112_s0 s f) (m0+1) v8=(runL (F112_s0 s f) (((s.length:Int)-0).toNat+1) 0)) (_:Int.toNat ((s.length:Int)-v8)<m0+1) (hl0:m0<i0.1) (_:(0:Int)<=v8)=>ifd (v8<(s.length:Int)) (fun h2 _=>ai (uu0:ib v8 s) (ai (Eq.refl (fsQ100 Qf f)) (ai (Imps.pxH (ds:=eformR (s.getD v8.toNat default)) (hpre0 v8.toNat uu0)) (ifb (f (s.getD v8.toNat default)) (fun h3=>(fun hF:(v8:Int)=(F112 s f)=>ai (Qg (fun r:Int=>(.int .i64 r:Value)) hF) trivial) (finR (runL_ret hI0 (condT h2 (condT h3 rfl))) rfl)) (fun h3=>ai (iok (v8+1) uu0) (Exists.intro (p:=fun j:Nat×Int=>(fun (v8_:Int)=>(((.int .i64 (s.length:Int):Value)=.int .i64 (s.length:Int))/\((.int .i64 (v8+1):Value)=.int .i64 v8_)/\(Imp (.l 3 eformR s) (.l 3 eformR s))/\(fsQ100 Qf f=fsQ100 Qf f)/\((runL (F112_s0 s f) j.1 j.2=(runL (F112_s0 s f) (((s.length:Int)-0).toNat+1) 0)/\Int.toNat ((s.length:Int)-v8_)<j.1/\(0:Int)<=v8_)/\j.1<i0.1))) j.2) (m0,(v8+1)) (ai rfl (ai rfl (ai ir (ai rfl (ai (ai (runL_next hI0 (condT h2 (condF h3 rfl))) (ai (uu0:Int.toNat ((s.length:Int)-(v8+1))<m0) (uu0:(0:Int)<=(v8+1)))) hl0))))))))))) (fun h2 _=>(fun hD0_4:(runL (F112_s0 s f) (((s.length:Int)-0).toNat+1) 0)=Lp.done v8=>(fun hF:((-1):Int)=(F112 s f)=>ai (Qg (fun r:Int=>(.int .i64 r:Value)) hF) trivial) (finD hD0_4 rfl)) (runL_done hI0 (condF h2 rfl)))) (i0.1-1) i0.2 (hd1 hi0.1 hi0.2.1) (hd2 hi0.2.1) (hd3 hi0.2.1) hi0.2.2)) uu2
theorem as112 (s:List formR) (f:formR->Bool):F112 s f=(idxI f s):=by
 exact idx_loop f s (F112_s0 s f) (fun i=>rfl)
theorem oa112 (s:List formR) (f:formR->Bool) (Qf:formR->Prop):(S112 (idxI f s) s f Qf).ok Tryz.prog 112 false:=by
 intro hp; have h:=ok112 s f Qf hp; rw [as112 s f] at h; exact h
theorem g112_0 (s:List formR) (f:formR->Bool):(idxI f s)<(s.length:Int):=by
 exact idxI_lt f s
theorem g112_1 (s:List formR) (f:formR->Bool):-1<=(idxI f s):=by
 (show -1<=idxI f s; unfold idxI; cases first (fun k=>f (s.getD k default)) s.length <;> simp only [oix] <;> omega)
def F78_s0 (s:List formR) (del:formR->Bool):(Int×Int×List formR)->Lp (Int×Int×List formR) (List formR):=fun (i41,j1,xs) =>
 bif (decide (j1<(xs.length:Int))) then (bif (!(del (xs.getD j1.toNat default))) then (.next ((i41+1),(j1+1),(xs.set (i41).toNat (xs.getD j1.toNat default)))) else (.next (i41,(j1+1),xs))) else (.done (i41,j1,xs))
def F78_j0 (s:List formR) (del:formR->Bool):Lp (List formR×Int) (List formR) :=
 (runL (F78_s0 s del) (((s.length:Int)-((idxI del s)+1)).toNat+1) ((idxI del s),((idxI del s)+1),s)).fin Lp.ret (fun (i41,j1,xs)=>.done (xs,i41))
def F78 (s:List formR) (del:formR->Bool):List formR :=
 bif ((idxI del s)==(-1)) then s else ((F78_j0 s del).fin (fun r=>r) (fun (s1,i40)=>((s1.take i40.toNat++List.replicate (s1.drop i40.toNat).length ((⟨Zc,0,(⟨none,0,0⟩:SV)⟩:formR):formR)++s1.drop (i40.toNat+(s1.drop i40.toNat).length)).take i40.toNat)))
def S78 (R:List formR) (s:List formR) (del:formR->Bool) (Qdel:formR->Prop):Spec:=⟨[.ow (.l 3 eformR s) none,.fn (fsQ100 Qdel del)],.ow (.l 3 eformR R),s.length<=1000000000/\(∀ k:Nat,k<s.length->Qdel (s.getD k default))⟩
abbrev q78_1 (xs:List formR) (i41:Int) (j1:Int):=(xs.set (i41).toNat (xs.getD j1.toNat default))
theorem ok78 (s:List formR) (del:formR->Bool) (Qdel:formR->Prop):(S78 (F78 s del) s del Qdel).ok Tryz.prog 78 false :=
 fnG_ok mixed (fn:=Tryz.f78) (ct:=.seqk [(0,0)] .no (.seq (.reg [(2,.call 112 (S112 (idxI del s) s del Qdel) (oa112 s del Qdel) none)]) (.seq (.seq .no (.cond (.seq .no .no) .no)) (.cut (ι:=List formR×Int) (fun j=>(fun (s1:List formR) (i40:Int)=>(⟨[(0,some (.h 0 0)),(5,some (.v (vI i40)))],[(0,some (.own 0 (.l 3 eformR s1)))],1⟩:St)) j.1 j.2) (fun j=>(fun (s1:List formR) (i40:Int)=>((F78_j0 s del)=Lp.done j/\(0<=i40/\i40<=(s1.length:Int)))) j.1 j.2) (.seqk [(0,0)] (.reg [(1,.bnd)]) (.blk (.loop (ι:=Nat×(Int×Int×List formR)) (fun i=>(fun (i41:Int) (j1:Int) (xs:List formR)=>(⟨[(0,some (.h 0 0)),(1,some (.h 1 0)),(5,some (.v (vI i41))),(6,some (.v (vI j1)))],[(0,some (.own 0 (.l 3 eformR xs))),(1,some (.fn (fsQ100 Qdel del)))],2⟩:St)) i.2.1 i.2.2.1 i.2.2.2) (fun i=>runL (F78_s0 s del) i.1 i.2=(runL (F78_s0 s del) (((s.length:Int)-((idxI del s)+1)).toNat+1) ((idxI del s),((idxI del s)+1),s))/\(fun (i41:Int) (j1:Int) (xs:List formR)=>(Int.toNat ((xs.length:Int)-j1)<i.1/\(0<=i41/\i41<j1)/\j1<=(xs.length:Int)/\xs.length<=1000000000/\(∀ k:Nat,j1<=(k:Int)->k<xs.length->Qdel (xs.getD k default))/\xs.length=s.length)) i.2.1 i.2.2.1 i.2.2.2) (fun i=>i.1) ((((s.length:Int)-((idxI del s)+1)).toNat+1),((idxI del s),((idxI del s)+1),s)) (fun i=>(fun (i41:Int) (j1:Int) (xs:List formR)=>(.seq (.seq .no (.cond .no .no)) (.seq (.blk (.seq .no (.seq (.reg [(2,.fnv (fsQ100 Qdel del) (xs.getD j1.toNat default))]) (.cond (.seq (.reg [(4,.dat (.l 3 eformR (q78_1 xs i41 j1)))]) (.reg [(1,.bnd)])) .no)))) (.reg [(1,.bnd)])))) i.2.1 i.2.2.1 i.2.2.2)))) (fun j=>(fun (s1:List formR) (i40:Int)=>(.seq (.reg [(2,.part),(3,.dat (.l 3 eformR (s1.take i40.toNat++List.replicate (s1.drop i40.toNat).length ((⟨Zc,0,(⟨none,0,0⟩:SV)⟩:formR):formR)++s1.drop (i40.toNat+(s1.drop i40.toNat).length))))]) (.seq (.reg [(2,.own)]) .no))) j.1 j.2))))) Tryz.func78 (fun (hp:s.length<=1000000000/\(∀ k:Nat,k<s.length->Qdel (s.getD k default)))=>have hpre0:=hp.1; have hpre1:=hp.2; kn s fun _=>ai (uu17:∀ k:Nat,k<s.length->Qdel (s.getD k default)) (ai (Imp.refl (.l 3 eformR s)) (ai (Eq.refl (fsQ100 Qdel del)) (have gv1:(idxI del s)<(s.length:Int):=g112_0 s del; have gv2:-1<=(idxI del s):=g112_1 s del; ife (idxI del s) (-1) (fun h3 _=>(fun hF:(s:List formR)=(F78 s del)=>ai (Imp.of_eq (Qg (fun r:List formR=>Dat.l 3 eformR r) hF)) trivial) (condT h3 rfl)) (fun h3 _=>ai (ai (iok ((idxI del s)+1) uu0) (kn s fun _=>ai (ai rfl (ai rfl (ai ir (ai rfl (ai (rfl:runL (F78_s0 s del) (((s.length:Int)-((idxI del s)+1)).toNat+1) ((idxI del s),((idxI del s)+1),s)=(runL (F78_s0 s del) (((s.length:Int)-((idxI del s)+1)).toNat+1) ((idxI del s),((idxI del s)+1),s))) (ai (Qt _:Int.toNat ((s.length:Int)-((idxI del s)+1))<(((s.length:Int)-((idxI del s)+1)).toNat+1)) (ai (uu0:0<=(idxI del s)/\(idxI del s)<((idxI del s)+1)) (ai (uu0:((idxI del s)+1)<=(s.length:Int)) (ai (uu0:s.length<=1000000000) (ai (by (intro k hk hk2; exact (by assumption:∀ k:Nat,k<s.length->Qdel (s.getD k default)) k hk2):∀ k:Nat,((idxI del s)+1)<=(k:Int)->k<s.length->Qdel (s.getD k default)) (uu0:s.length=s.length)))))))))):((.int .i64 (idxI del s):Value)=.int .i64 (idxI del s))/\((.int .i64 ((idxI del s)+1):Value)=.int .i64 ((idxI del s)+1))/\(Imp (.l 3 eformR s) (.l 3 eformR s))/\(fsQ100 Qdel del=fsQ100 Qdel del)/\(runL (F78_s0 s del) (((s.length:Int)-((idxI del s)+1)).toNat+1) ((idxI del s),((idxI del s)+1),s)=(runL (F78_s0 s del) (((s.length:Int)-((idxI del s)+1)).toNat+1) ((idxI del s),((idxI del s)+1),s))/\Int.toNat ((s.length:Int)-((idxI del s)+1))<(((s.length:Int)-((idxI del s)+1)).toNat+1)/\(0<=(idxI del s)/\(idxI del s)<((idxI del s)+1))/\((idxI del s)+1)<=(s.length:Int)/\s.length<=1000000000/\(∀ k:Nat,((idxI del s)+1)<=(k:Int)->k<s.length->Qdel (s.getD k default))/\s.length=s.length)) (fun (i0:Nat×(Int×Int×List formR)) (hi0:runL (F78_s0 s del) i0.1 i0.2=(runL (F78_s0 s del) (((s.length:Int)-((idxI del s)+1)).toNat+1) ((idxI del s),((idxI del s)+1),s))/\(fun (i41:Int) (j1:Int) (xs:List formR)=>(Int.toNat ((xs.length:Int)-j1)<i0.1/\(0<=i41/\i41<j1)/\j1<=(xs.length:Int)/\xs.length<=1000000000/\(∀ k:Nat,j1<=(k:Int)->k<xs.length->Qdel (xs.getD k default))/\xs.length=s.length)) i0.2.1 i0.2.2.1 i0.2.2.2)=>(fun (m0:Nat) (i41:Int) (j1:Int) (xs:List formR) (hI0:runL (F78_s0 s del) (m0+1) (i41,j1,xs)=(runL (F78_s0 s del) (((s.length:Int)-((idxI del s)+1)).toNat+1) ((idxI del s),((idxI del s)+1),s))) (_:Int.toNat ((xs.length:Int)-j1)<m0+1) (hl0:m0<i0.1) (_:0<=i41/\i41<j1) (_:j1<=(xs.length:Int)) (_:xs.length<=1000000000) (_:∀ k:Nat,j1<=(k:Int)->k<xs.length->Qdel (xs.getD k default)) (_:xs.length=s.length)=>ifd (j1<(xs.length:Int)) (fun h5 _=>ai (uu0:ib j1 xs) (ai (Eq.refl (fsQ100 Qdel del)) (ai (Imps.pxH (ds:=eformR (xs.getD j1.toNat default)) ((uu17:∀ k:Nat,j1<=(k:Int)->k<xs.length->Qdel (xs.getD k default)) j1.toNat uu0 uu0)) (ifb (!(del (xs.getD j1.toNat default))) (fun h6=>have _:=(notET h6); ai (uu0:ib i41 xs) (ai (setr 3 eformR xs (i41).toNat (xs.getD j1.toNat default)) (ai (iok (i41+1) uu0) (ai (iok (j1+1) uu0) (Exists.intro (p:=fun j:Nat×(Int×Int×List formR)=>(fun (i41_:Int) (j1_:Int) (xs_:List formR)=>(((.int .i64 (i41+1):Value)=.int .i64 i41_)/\((.int .i64 (j1+1):Value)=.int .i64 j1_)/\(Imp (.l 3 eformR (q78_1 xs i41 j1)) (.l 3 eformR xs_))/\(fsQ100 Qdel del=fsQ100 Qdel del)/\((runL (F78_s0 s del) j.1 j.2=(runL (F78_s0 s del) (((s.length:Int)-((idxI del s)+1)).toNat+1) ((idxI del s),((idxI del s)+1),s))/\Int.toNat ((xs_.length:Int)-j1_)<j.1/\(0<=i41_/\i41_<j1_)/\j1_<=(xs_.length:Int)/\xs_.length<=1000000000/\(∀ k:Nat,j1_<=(k:Int)->k<xs_.length->Qdel (xs_.getD k default))/\xs_.length=s.length)/\j.1<i0.1))) j.2.1 j.2.2.1 j.2.2.2) (m0,((i41+1),(j1+1),(q78_1 xs i41 j1))) (ai rfl (ai rfl (ai ir (ai rfl (ai (ai (runL_next hI0 (condT h5 (condT h6 rfl))) (ai (uu24:Int.toNat (((q78_1 xs i41 j1).length:Int)-(j1+1))<m0) (ai (uu0:0<=(i41+1)/\(i41+1)<(j1+1)) (ai (uu24:(j1+1)<=((q78_1 xs i41 j1).length:Int)) (ai (uu24:(q78_1 xs i41 j1).length<=1000000000) (ai (by (intro k hk hk2; (rw [getD_set_ne _ _ _ _ (by omega)]; exact (by assumption:∀ k:Nat,j1<=(k:Int)->k<xs.length->Qdel (xs.getD k default)) k (by omega) (by simpa using hk2))):∀ k:Nat,(j1+1)<=(k:Int)->k<(q78_1 xs i41 j1).length->Qdel ((q78_1 xs i41 j1).getD k default)) (uu24:(q78_1 xs i41 j1).length=s.length))))))) hl0)))))))))) (fun h6=>have _:=(notEF h6); ai (iok (j1+1) uu0) (Exists.intro (p:=fun j:Nat×(Int×Int×List formR)=>(fun (i41_:Int) (j1_:Int) (xs_:List formR)=>(((.int .i64 i41:Value)=.int .i64 i41_)/\((.int .i64 (j1+1):Value)=.int .i64 j1_)/\(Imp (.l 3 eformR xs) (.l 3 eformR xs_))/\(fsQ100 Qdel del=fsQ100 Qdel del)/\((runL (F78_s0 s del) j.1 j.2=(runL (F78_s0 s del) (((s.length:Int)-((idxI del s)+1)).toNat+1) ((idxI del s),((idxI del s)+1),s))/\Int.toNat ((xs_.length:Int)-j1_)<j.1/\(0<=i41_/\i41_<j1_)/\j1_<=(xs_.length:Int)/\xs_.length<=1000000000/\(∀ k:Nat,j1_<=(k:Int)->k<xs_.length->Qdel (xs_.getD k default))/\xs_.length=s.length)/\j.1<i0.1))) j.2.1 j.2.2.1 j.2.2.2) (m0,(i41,(j1+1),xs)) (ai rfl (ai rfl (ai ir (ai rfl (ai (ai (runL_next hI0 (condT h5 (condF h6 rfl))) (ai (uu0:Int.toNat ((xs.length:Int)-(j1+1))<m0) (ai (uu0:0<=i41/\i41<(j1+1)) (ai (uu0:(j1+1)<=(xs.length:Int)) (ai (uu0:xs.length<=1000000000) (ai (by (intro k hk hk2; exact (by assumption:∀ k:Nat,j1<=(k:Int)->k<xs.length->Qdel (xs.getD k default)) k (by omega) hk2):∀ k:Nat,(j1+1)<=(k:Int)->k<xs.length->Qdel (xs.getD k default)) (uu0:xs.length=s.length))))))) hl0))))))))))) (fun h5 _=>(fun hD0_7:(runL (F78_s0 s del) (((s.length:Int)-((idxI del s)+1)).toNat+1) ((idxI del s),((idxI del s)+1),s))=Lp.done (i41,j1,xs)=>Exists.intro (p:=fun j:List formR×Int=>(fun (s1_:List formR) (i40_:Int)=>(((.int .i64 i41:Value)=.int .i64 i40_)/\(Imp (.l 3 eformR xs) (.l 3 eformR s1_))/\(F78_j0 s del)=Lp.done j/\(0<=i40_/\i40_<=(s1_.length:Int)))) j.1 j.2) (xs,i41) (ai rfl (ai ir (ai (Tk (finD hD0_7 rfl)) (uu0:0<=i41/\i41<=(xs.length:Int)))))) (runL_done hI0 (condF h5 rfl)))) (i0.1-1) i0.2.1 i0.2.2.1 i0.2.2.2 (hd1 hi0.1 hi0.2.1) (hd2 hi0.2.1) (hd3 hi0.2.1) hi0.2.2.1 hi0.2.2.2.1 hi0.2.2.2.2.1 hi0.2.2.2.2.2.1 hi0.2.2.2.2.2.2))) (fun (j:List formR×Int) (hj:(fun (s1:List formR) (i40:Int)=>((F78_j0 s del)=Lp.done j/\(0<=i40/\i40<=(s1.length:Int)))) j.1 j.2)=>(fun (s1:List formR) (i40:Int) (hJ0_8:(F78_j0 s del)=Lp.done (s1,i40)) (_:0<=i40/\i40<=(s1.length:Int))=>ai (uu0:0<=i40/\i40<=(s1.length:Int)/\(s1.length:Int)<=(s1.length:Int)) (ai (ClearOK.mk eformR s1 ((⟨Zc,0,(⟨none,0,0⟩:SV)⟩:formR):formR) rfl (fun y e he=>by simp only [eformR,Qr,Rd,Tu] at he; rcases he with rfl | rfl | rfl <;> exact ⟨_,rfl⟩):ClearOK (.l 3 eformR s1) i40.toNat (s1.drop i40.toNat).length 3 [.string Zc,.int .i64 0,.slice none 0 0] (.l 3 eformR (s1.take i40.toNat++List.replicate (s1.drop i40.toNat).length ((⟨Zc,0,(⟨none,0,0⟩:SV)⟩:formR):formR)++s1.drop (i40.toNat+(s1.drop i40.toNat).length)))) (ai (uu24:0<=(0:Int)/\(0:Int)<=i40/\i40<=((s1.take i40.toNat++List.replicate (s1.drop i40.toNat).length ((⟨Zc,0,(⟨none,0,0⟩:SV)⟩:formR):formR)++s1.drop (i40.toNat+(s1.drop i40.toNat).length)).length:Int)) ((fun hF:(((s1.take i40.toNat++List.replicate (s1.drop i40.toNat).length ((⟨Zc,0,(⟨none,0,0⟩:SV)⟩:formR):formR)++s1.drop (i40.toNat+(s1.drop i40.toNat).length)).take i40.toNat):List formR)=(F78 s del)=>ai (Imp.of_eq (Qg (fun r:List formR=>Dat.l 3 eformR r) hF)) trivial) (condF h3 (finD hJ0_8 rfl)))))) j.1 j.2 hj.1 hj.2)))))) uu2
theorem as78 (s:List formR) (del:formR->Bool):F78 s del=(s.filter (fun x=>!(del x))):=by
 exact del_loop del s _ (F78_s0 s del) (fun i j xs=>rfl)
theorem oa78 (s:List formR) (del:formR->Bool) (Qdel:formR->Prop):(S78 (s.filter (fun x=>!(del x))) s del Qdel).ok Tryz.prog 78 false:=by
 intro hp; have h:=ok78 s del Qdel hp; rw [as78 s del] at h; exact h
def fsB54 (p:Za->Bool):FnSpec:=⟨Za,fun i=>[.c (.x (BX i 1048576))],fun i=>.bool (p i)⟩
def eFn54 (p:Za->Bool):List Dat:=[.x (FnX Tryz.prog (fsB54 p))]
structure form where
 word:Za
 key:Int
 checks:List (Za->Bool)
 deriving Inhabited
def eform (x:form):List Dat:=[.v (.string x.word),.v (vI x.key),.l 1 eFn54 x.checks]
theorem kc72 (low:Int) (high:Int) {K_:Prop} (k_:K_):(True)/\(Imp (.v (vI low)) (.v (vI low)))/\(Imp (.v (vI high)) (.v (vI high)))/\K_:=⟨trivial,Imp.refl _,Imp.refl _,k_⟩
theorem kc76 (words:List Za) {K_:Prop} (k_:K_):(True)/\(Imp (.l 1 eStr words) (.l 1 eStr words))/\K_:=⟨trivial,Imp.refl _,k_⟩
abbrev kh72f (low:Int) (high:Int):Hint false Tryz.prog:=.call 72 (S72 low high) ((ok72 low high).to false) none
abbrev kh76f (words:List Za):Hint false Tryz.prog:=.call 76 (S76 words) ((ok76 words).to false) none
def raw48 (x:Nat->SV):List formR:=[⟨Zn,1,x 0⟩,⟨Zk,2,x 1⟩,⟨Zf,2,x 2⟩,⟨Zf,2,x 3⟩,⟨Zh,3,x 4⟩,⟨Zq,3,x 5⟩,⟨Zp,2,x 6⟩,⟨Ze,1,x 7⟩,⟨Zj,3,x 8⟩]
abbrev X0:List Za:=[Z0]
abbrev Xp:List Za:=[Zr,Zs]
def all48:List form:=[⟨Zn,1,[(fun x0=>F73 x0)]⟩,⟨Zk,2,[(fun x0=>F73 x0),(fun x0=>F74 x0)]⟩,⟨Zf,2,[(fun x0=>F105 x0 0 7),(fun x0=>F75 x0)]⟩,⟨Zf,2,[(fun x0=>F105 x0 0 7),(fun x0=>F75 x0),(fun x0=>F109 x0 X0),(fun x0=>F73 x0)]⟩,⟨Zh,3,[(fun x0=>F73 x0),(fun x0=>F105 x0 0 99),(fun x0=>F109 x0 Xp),(fun x0=>F75 x0),(fun x0=>F75 x0),(fun x0=>F105 x0 0 7)]⟩,⟨Zq,3,[(fun x0=>F75 x0),(fun x0=>F77 x0)]⟩,⟨Zp,2,[(fun x0=>F77 x0),(fun x0=>F105 x0 1 9),(fun x0=>F105 x0 1 999999)]⟩,⟨Ze,1,[(fun x0=>F75 x0),(fun x0=>F77 x0),(fun x0=>F105 x0 1 65535),(fun x0=>F105 x0 1 65535)]⟩,⟨Zj,3,[(fun x0=>F105 x0 1 7),(fun x0=>F105 x0 1 65535),(fun x0=>F77 x0),(fun x0=>F105 x0 1 65535)]⟩]
def know48 (x:Nat->SV):List (Value×Dat):=[(sv (x 0),.l 1 eFn54 [(fun x0=>F73 x0)]),(sv (x 1),.l 1 eFn54 [(fun x0=>F73 x0),(fun x0=>F74 x0)]),(sv (x 2),.l 1 eFn54 [(fun x0=>F105 x0 0 7),(fun x0=>F75 x0)]),(sv (x 3),.l 1 eFn54 [(fun x0=>F105 x0 0 7),(fun x0=>F75 x0),(fun x0=>F109 x0 X0),(fun x0=>F73 x0)]),(sv (x 4),.l 1 eFn54 [(fun x0=>F73 x0),(fun x0=>F105 x0 0 99),(fun x0=>F109 x0 Xp),(fun x0=>F75 x0),(fun x0=>F75 x0),(fun x0=>F105 x0 0 7)]),(sv (x 5),.l 1 eFn54 [(fun x0=>F75 x0),(fun x0=>F77 x0)]),(sv (x 6),.l 1 eFn54 [(fun x0=>F77 x0),(fun x0=>F105 x0 1 9),(fun x0=>F105 x0 1 999999)]),(sv (x 7),.l 1 eFn54 [(fun x0=>F75 x0),(fun x0=>F77 x0),(fun x0=>F105 x0 1 65535),(fun x0=>F105 x0 1 65535)]),(sv (x 8),.l 1 eFn54 [(fun x0=>F105 x0 1 7),(fun x0=>F105 x0 1 65535),(fun x0=>F77 x0),(fun x0=>F105 x0 1 65535)])]
def fh73:FnH Tryz.prog:=⟨true,73,fsB54 (fun x0=>F73 x0),[],rfl,True,fun i=>ok_bx (ok73 i)⟩
theorem ca73:callable Tryz.prog 73=true:=by kernel_rfl
def fh74:FnH Tryz.prog:=⟨true,74,fsB54 (fun x0=>F74 x0),[],rfl,True,fun i=>ok_bx (ok74 i)⟩
theorem ca74:callable Tryz.prog 74=true:=by kernel_rfl
def fh75:FnH Tryz.prog:=⟨false,75,fsB54 (fun x0=>F75 x0),[],rfl,True,fun i=>ok_bx (ok75 i)⟩
theorem ca75:callable Tryz.prog 75=true:=by kernel_rfl
def fh77:FnH Tryz.prog:=⟨false,77,fsB54 (fun x0=>F77 x0),[],rfl,True,fun i=>ok_bx (ok77 i)⟩
theorem ca77:callable Tryz.prog 77=true:=by kernel_rfl
def fh105 (a b:Int):FnH Tryz.prog:=⟨false,105,fsB54 (fun x0=>F105 x0 a b),[.rp [.v (vI a)],.rp [.v (vI b)]],rfl,True,fun i=>ok_bx (ok105 i a b)⟩
theorem ca105:callable Tryz.prog 105=true:=by kernel_rfl
def fh109 (l:List Za):FnH Tryz.prog:=⟨true,109,fsB54 (fun x0=>F109 x0 l),[.rp [.l 1 eStr l]],rfl,True,fun i=>ok_bx (ok109 i l)⟩
theorem ca109:callable Tryz.prog 109=true:=by kernel_rfl
theorem hk48_0 (word:Za):HandOK Tryz.prog 45 (fun _:Unit=>(⟨[(1,some (.p 0 0)),(5,some (.h 1 0)),(8,some (.h 2 0))],[(0,some (.box 9 [.v (.string word)])),(1,some (.arr 9 [.v (.string Zn),.v (vI 1),.h 2 0,.v (.string Zk),.v (vI 2),.h 3 0,.v (.string Zf),.v (vI 2),.h 4 0,.v (.string Zf),.v (vI 2),.h 7 0,.v (.string Zh),.v (vI 3),.h 12 0,.v (.string Zq),.v (vI 3),.h 19 0,.v (.string Zp),.v (vI 2),.h 20 0,.v (.string Ze),.v (vI 1),.h 25 0,.v (.string Zj),.v (vI 3),.h 28 0])),(2,some (.arr 1 [.cl 73 []])),(3,some (.arr 2 [.cl 73 [],.cl 74 []])),(4,some (.arr 2 [.cl 105 [.p 5 0,.p 6 0],.cl 75 []])),(5,some (.box 3 [.v (vI 0)])),(6,some (.box 3 [.v (vI 7)])),(7,some (.arr 4 [.cl 105 [.p 8 0,.p 9 0],.cl 75 [],.cl 109 [.p 10 0],.cl 73 []])),(8,some (.box 3 [.v (vI 0)])),(9,some (.box 3 [.v (vI 7)])),(10,some (.box 23 [.h 11 0])),(11,some (.own 11 (.l 1 eStr X0))),(12,some (.arr 6 [.cl 73 [],.cl 105 [.p 13 0,.p 14 0],.cl 109 [.p 15 0],.cl 75 [],.cl 75 [],.cl 105 [.p 17 0,.p 18 0]])),(13,some (.box 3 [.v (vI 0)])),(14,some (.box 3 [.v (vI 99)])),(15,some (.box 23 [.h 16 0])),(16,some (.own 16 (.l 1 eStr Xp))),(17,some (.box 3 [.v (vI 0)])),(18,some (.box 3 [.v (vI 7)])),(19,some (.arr 2 [.cl 75 [],.cl 77 []])),(20,some (.arr 3 [.cl 77 [],.cl 105 [.p 21 0,.p 22 0],.cl 105 [.p 23 0,.p 24 0]])),(21,some (.box 3 [.v (vI 1)])),(22,some (.box 3 [.v (vI 9)])),(23,some (.box 3 [.v (vI 1)])),(24,some (.box 3 [.v (vI 999999)])),(25,some (.arr 4 [.cl 75 [],.cl 77 [],.cl 105 [.p 26 0,.p 27 0],.cl 105 [.p 26 0,.p 27 0]])),(26,some (.box 3 [.v (vI 1)])),(27,some (.box 3 [.v (vI 65535)])),(28,some (.arr 4 [.cl 105 [.p 29 0,.p 30 0],.cl 105 [.p 26 0,.p 27 0],.cl 77 [],.cl 105 [.p 26 0,.p 27 0]])),(29,some (.box 3 [.v (vI 1)])),(30,some (.box 3 [.v (vI 7)]))],31⟩:St)) (fun _=>True) (fun x:Nat->SV=>(⟨[(1,some (.p 0 0)),(5,some (.h 1 0)),(8,some (.h 2 0))],[(0,some (.box 9 [.v (.string word)])),(1,some (.own 1 (.l 3 eformR (raw48 x)))),(2,some (.own 2 (.x (LX (know48 x)))))],31⟩:St)) (fun _=>True):=by
 intro ψ IN w0 w a i _ H
 obtain ⟨β,φ,dom,V⟩:=H
 have R:=V.rel
 have hall:allMod (fsG (⟨[(1,some (.p 0 0)),(5,some (.h 1 0)),(8,some (.h 2 0))],[(0,some (.box 9 [.v (.string word)])),(1,some (.arr 9 [.v (.string Zn),.v (vI 1),.h 2 0,.v (.string Zk),.v (vI 2),.h 3 0,.v (.string Zf),.v (vI 2),.h 4 0,.v (.string Zf),.v (vI 2),.h 7 0,.v (.string Zh),.v (vI 3),.h 12 0,.v (.string Zq),.v (vI 3),.h 19 0,.v (.string Zp),.v (vI 2),.h 20 0,.v (.string Ze),.v (vI 1),.h 25 0,.v (.string Zj),.v (vI 3),.h 28 0])),(2,some (.arr 1 [.cl 73 []])),(3,some (.arr 2 [.cl 73 [],.cl 74 []])),(4,some (.arr 2 [.cl 105 [.p 5 0,.p 6 0],.cl 75 []])),(5,some (.box 3 [.v (vI 0)])),(6,some (.box 3 [.v (vI 7)])),(7,some (.arr 4 [.cl 105 [.p 8 0,.p 9 0],.cl 75 [],.cl 109 [.p 10 0],.cl 73 []])),(8,some (.box 3 [.v (vI 0)])),(9,some (.box 3 [.v (vI 7)])),(10,some (.box 23 [.h 11 0])),(11,some (.own 11 (.l 1 eStr X0))),(12,some (.arr 6 [.cl 73 [],.cl 105 [.p 13 0,.p 14 0],.cl 109 [.p 15 0],.cl 75 [],.cl 75 [],.cl 105 [.p 17 0,.p 18 0]])),(13,some (.box 3 [.v (vI 0)])),(14,some (.box 3 [.v (vI 99)])),(15,some (.box 23 [.h 16 0])),(16,some (.own 16 (.l 1 eStr Xp))),(17,some (.box 3 [.v (vI 0)])),(18,some (.box 3 [.v (vI 7)])),(19,some (.arr 2 [.cl 75 [],.cl 77 []])),(20,some (.arr 3 [.cl 77 [],.cl 105 [.p 21 0,.p 22 0],.cl 105 [.p 23 0,.p 24 0]])),(21,some (.box 3 [.v (vI 1)])),(22,some (.box 3 [.v (vI 9)])),(23,some (.box 3 [.v (vI 1)])),(24,some (.box 3 [.v (vI 999999)])),(25,some (.arr 4 [.cl 75 [],.cl 77 [],.cl 105 [.p 26 0,.p 27 0],.cl 105 [.p 26 0,.p 27 0]])),(26,some (.box 3 [.v (vI 1)])),(27,some (.box 3 [.v (vI 65535)])),(28,some (.arr 4 [.cl 105 [.p 29 0,.p 30 0],.cl 105 [.p 26 0,.p 27 0],.cl 77 [],.cl 105 [.p 26 0,.p 27 0]])),(29,some (.box 3 [.v (vI 1)])),(30,some (.box 3 [.v (vI 7)]))],31⟩:St).fs) [2,3,4,5,6,7,8,9,10,11,12,13,14,15,16,17,18,19,20,21,22,23,24,25,26,27,28,29,30]=true:=rfl
 have hS:∀ id∈[2,3,4,5,6,7,8,9,10,11,12,13,14,15,16,17,18,19,20,21,22,23,24,25,26,27,28,29,30],∀ b∈φ id,b∈[2,3,4,5,6,7,8,9,10,11,12,13,14,15,16,17,18,19,20,21,22,23,24,25,26,27,28,29,30].flatMap φ:=fun id hid b hb=>List.mem_flatMap.2 ⟨id,hid,hb⟩
 have hlt:=R.flat_lt (allMod_ok hall)
 have e2:=arr_sv R (show fsG _ 2=_ from rfl)
 have e3:=arr_sv R (show fsG _ 3=_ from rfl)
 have e4:=arr_sv R (show fsG _ 4=_ from rfl)
 have e7:=arr_sv R (show fsG _ 7=_ from rfl)
 have e12:=arr_sv R (show fsG _ 12=_ from rfl)
 have e19:=arr_sv R (show fsG _ 19=_ from rfl)
 have e20:=arr_sv R (show fsG _ 20=_ from rfl)
 have e25:=arr_sv R (show fsG _ 25=_ from rfl)
 have e28:=arr_sv R (show fsG _ 28=_ from rfl)
 have he:([.v (.string Zn),.v (vI 1),.v (sv (toSV (β 2 0))),.v (.string Zk),.v (vI 2),.v (sv (toSV (β 3 0))),.v (.string Zf),.v (vI 2),.v (sv (toSV (β 4 0))),.v (.string Zf),.v (vI 2),.v (sv (toSV (β 7 0))),.v (.string Zh),.v (vI 3),.v (sv (toSV (β 12 0))),.v (.string Zq),.v (vI 3),.v (sv (toSV (β 19 0))),.v (.string Zp),.v (vI 2),.v (sv (toSV (β 20 0))),.v (.string Ze),.v (vI 1),.v (sv (toSV (β 25 0))),.v (.string Zj),.v (vI 3),.v (sv (toSV (β 28 0)))]:List Dat)=[.v (.string Zn),.v (vI 1),.v (β 2 0),.v (.string Zk),.v (vI 2),.v (β 3 0),.v (.string Zf),.v (vI 2),.v (β 4 0),.v (.string Zf),.v (vI 2),.v (β 7 0),.v (.string Zh),.v (vI 3),.v (β 12 0),.v (.string Zq),.v (vI 3),.v (β 19 0),.v (.string Zp),.v (vI 2),.v (β 20 0),.v (.string Ze),.v (vI 1),.v (β 25 0),.v (.string Zj),.v (vI 3),.v (β 28 0)]:=by rw [<- e2,<- e3,<- e4,<- e7,<- e12,<- e19,<- e20,<- e25,<- e28]
 refine ⟨fun k=>toSV (β (([2,3,4,7,12,19,20,25,28]:List Nat).getD k 0) 0),trivial,pack3 (bx:=[.string word]) (rest:=[2,3,4,5,6,7,8,9,10,11,12,13,14,15,16,17,18,19,20,21,22,23,24,25,26,27,28,29,30]) V rfl ⟨_,rfl,rfl⟩ hall uu1 (R.ok 2 _ rfl).1 (arr_own R (show fsG _ 1=_ from rfl) rfl uu1 (fun _=>rfl) he) (fun hnd _=>⟨⟨R.all1 2 0,?_⟩,hnd,hlt⟩)⟩
 exact ⟨RdV.at_sv e2 (arr_fns R (F:=fsB54) (show fsG _ 2=_ from rfl) rfl uu1 (fun _=>rfl) (hS 2 uu1) ⟨_,_,rfl,cl_none fh73 rfl trivial hlt ca73 rfl,rfl⟩),
  RdV.at_sv e3 (arr_fns R (F:=fsB54) (show fsG _ 3=_ from rfl) rfl uu1 (fun _=>rfl) (hS 3 uu1) ⟨_,_,rfl,cl_none fh73 rfl trivial hlt ca73 rfl,⟨_,_,rfl,cl_none fh74 rfl trivial hlt ca74 rfl,rfl⟩⟩),
  RdV.at_sv e4 (arr_fns R (F:=fsB54) (show fsG _ 4=_ from rfl) rfl uu1 (fun _=>rfl) (hS 4 uu1) ⟨_,_,rfl,cl_two R (fh105 0 7) (show fsG _ 5=_ from rfl) (show fsG _ 6=_ from rfl) rfl trivial (hS 5 uu1) (hS 6 uu1) hlt ca105 rfl rfl rfl,⟨_,_,rfl,cl_none fh75 rfl trivial hlt ca75 rfl,rfl⟩⟩),
  RdV.at_sv e7 (arr_fns R (F:=fsB54) (show fsG _ 7=_ from rfl) rfl uu1 (fun _=>rfl) (hS 7 uu1) ⟨_,_,rfl,cl_two R (fh105 0 7) (show fsG _ 8=_ from rfl) (show fsG _ 9=_ from rfl) rfl trivial (hS 8 uu1) (hS 9 uu1) hlt ca105 rfl rfl rfl,⟨_,_,rfl,cl_none fh75 rfl trivial hlt ca75 rfl,⟨_,_,rfl,cl_own R (fh109 X0) (show fsG _ 10=_ from rfl) (show fsG _ 11=_ from rfl) rfl trivial (hS 10 uu1) (hS 11 uu1) hlt ca109 rfl,⟨_,_,rfl,cl_none fh73 rfl trivial hlt ca73 rfl,rfl⟩⟩⟩⟩),
  RdV.at_sv e12 (arr_fns R (F:=fsB54) (show fsG _ 12=_ from rfl) rfl uu1 (fun _=>rfl) (hS 12 uu1) ⟨_,_,rfl,cl_none fh73 rfl trivial hlt ca73 rfl,⟨_,_,rfl,cl_two R (fh105 0 99) (show fsG _ 13=_ from rfl) (show fsG _ 14=_ from rfl) rfl trivial (hS 13 uu1) (hS 14 uu1) hlt ca105 rfl rfl rfl,⟨_,_,rfl,cl_own R (fh109 Xp) (show fsG _ 15=_ from rfl) (show fsG _ 16=_ from rfl) rfl trivial (hS 15 uu1) (hS 16 uu1) hlt ca109 rfl,⟨_,_,rfl,cl_none fh75 rfl trivial hlt ca75 rfl,⟨_,_,rfl,cl_none fh75 rfl trivial hlt ca75 rfl,⟨_,_,rfl,cl_two R (fh105 0 7) (show fsG _ 17=_ from rfl) (show fsG _ 18=_ from rfl) rfl trivial (hS 17 uu1) (hS 18 uu1) hlt ca105 rfl rfl rfl,rfl⟩⟩⟩⟩⟩⟩),
  RdV.at_sv e19 (arr_fns R (F:=fsB54) (show fsG _ 19=_ from rfl) rfl uu1 (fun _=>rfl) (hS 19 uu1) ⟨_,_,rfl,cl_none fh75 rfl trivial hlt ca75 rfl,⟨_,_,rfl,cl_none fh77 rfl trivial hlt ca77 rfl,rfl⟩⟩),
  RdV.at_sv e20 (arr_fns R (F:=fsB54) (show fsG _ 20=_ from rfl) rfl uu1 (fun _=>rfl) (hS 20 uu1) ⟨_,_,rfl,cl_none fh77 rfl trivial hlt ca77 rfl,⟨_,_,rfl,cl_two R (fh105 1 9) (show fsG _ 21=_ from rfl) (show fsG _ 22=_ from rfl) rfl trivial (hS 21 uu1) (hS 22 uu1) hlt ca105 rfl rfl rfl,⟨_,_,rfl,cl_two R (fh105 1 999999) (show fsG _ 23=_ from rfl) (show fsG _ 24=_ from rfl) rfl trivial (hS 23 uu1) (hS 24 uu1) hlt ca105 rfl rfl rfl,rfl⟩⟩⟩),
  RdV.at_sv e25 (arr_fns R (F:=fsB54) (show fsG _ 25=_ from rfl) rfl uu1 (fun _=>rfl) (hS 25 uu1) ⟨_,_,rfl,cl_none fh75 rfl trivial hlt ca75 rfl,⟨_,_,rfl,cl_none fh77 rfl trivial hlt ca77 rfl,⟨_,_,rfl,cl_two R (fh105 1 65535) (show fsG _ 26=_ from rfl) (show fsG _ 27=_ from rfl) rfl trivial (hS 26 uu1) (hS 27 uu1) hlt ca105 rfl rfl rfl,⟨_,_,rfl,cl_two R (fh105 1 65535) (show fsG _ 26=_ from rfl) (show fsG _ 27=_ from rfl) rfl trivial (hS 26 uu1) (hS 27 uu1) hlt ca105 rfl rfl rfl,rfl⟩⟩⟩⟩),
  RdV.at_sv e28 (arr_fns R (F:=fsB54) (show fsG _ 28=_ from rfl) rfl uu1 (fun _=>rfl) (hS 28 uu1) ⟨_,_,rfl,cl_two R (fh105 1 7) (show fsG _ 29=_ from rfl) (show fsG _ 30=_ from rfl) rfl trivial (hS 29 uu1) (hS 30 uu1) hlt ca105 rfl rfl rfl,⟨_,_,rfl,cl_two R (fh105 1 65535) (show fsG _ 26=_ from rfl) (show fsG _ 27=_ from rfl) rfl trivial (hS 26 uu1) (hS 27 uu1) hlt ca105 rfl rfl rfl,⟨_,_,rfl,cl_none fh77 rfl trivial hlt ca77 rfl,⟨_,_,rfl,cl_two R (fh105 1 65535) (show fsG _ 26=_ from rfl) (show fsG _ 27=_ from rfl) rfl trivial (hS 26 uu1) (hS 27 uu1) hlt ca105 rfl rfl rfl,rfl⟩⟩⟩⟩),trivial⟩
theorem hk48_1 (word:Za) (x:Nat->SV):HandOK Tryz.prog 45 (fun _:Unit=>(⟨[(2,some (.h 0 0)),(8,some (.h 1 0))],[(0,some (.own 0 (.l 3 eformR ((raw48 x).filter (fun x=>!((fun (x0:formR)=>F79 x0 word) x)))))),(1,some (.own 1 (.x (LX (know48 x)))))],2⟩:St)) (fun _=>True) (fun _:Unit=>(⟨[(2,some (.h 0 0))],[(0,some (.own 0 (.b (.l 3 eform (all48.filter (fun z=>z.word.toList==word.toList))))))],2⟩:St)) (fun _=>True):=by
 intro ψ IN w0 w a i _ H
 refine ⟨(),trivial,pack1 rfl rfl rfl (fun v y f g h1 h2=>?_) H⟩
 have hx:RdAll (fun b=>b∈f++g) w (know48 x):=h2.1.2.mono fun b hb=>⟨Qv _ hb,rfl⟩
 have hall:Rel2 (fun (y:formR) (z:form)=>y.word=z.word/\∀ cs,RdVs (fun b=>b∈f++g) w (eformR y) cs->RdVs (fun b=>b∈f++g) w (eform z) cs) (raw48 x) all48:=⟨⟨rfl,row3 hx.1⟩,⟨rfl,row3 hx.2.1⟩,⟨rfl,row3 hx.2.2.1⟩,⟨rfl,row3 hx.2.2.2.1⟩,⟨rfl,row3 hx.2.2.2.2.1⟩,⟨rfl,row3 hx.2.2.2.2.2.1⟩,⟨rfl,row3 hx.2.2.2.2.2.2.1⟩,⟨rfl,row3 hx.2.2.2.2.2.2.2.1⟩,⟨rfl,row3 hx.2.2.2.2.2.2.2.2.1⟩,trivial⟩
 refine own_reads h1 (fun b hb=>Qz _ hb) (Rel2.mono (fun a c h=>h.2) (Rel2.filter (fun y z h=>?_) hall))
 simp only [F79,h.1,Bool.not_not]
def F48 (word:Za):List form :=
 (all48.filter (fun z=>z.word.toList==word.toList))
def S48 (word:Za):Spec:=⟨[.r (.c (.v (.string word)))],.ow (.b (.l 3 eform (F48 word))),True⟩
theorem ok48 (word:Za):(S48 word).ok Tryz.prog 48 false :=
 fnG_ok mixed (fn:=Tryz.f48) (ct:=.seq .no (.seq (.reg [(0,kh72f 1 65535),(1,kh72f 1 7)]) (.hnd (ι:=Unit) (κ:=(Nat->SV)) (fun _=>(⟨[(1,some (.p 0 0)),(5,some (.h 1 0)),(8,some (.h 2 0))],[(0,some (.box 9 [.v (.string word)])),(1,some (.arr 9 [.v (.string Zn),.v (vI 1),.h 2 0,.v (.string Zk),.v (vI 2),.h 3 0,.v (.string Zf),.v (vI 2),.h 4 0,.v (.string Zf),.v (vI 2),.h 7 0,.v (.string Zh),.v (vI 3),.h 12 0,.v (.string Zq),.v (vI 3),.h 19 0,.v (.string Zp),.v (vI 2),.h 20 0,.v (.string Ze),.v (vI 1),.h 25 0,.v (.string Zj),.v (vI 3),.h 28 0])),(2,some (.arr 1 [.cl 73 []])),(3,some (.arr 2 [.cl 73 [],.cl 74 []])),(4,some (.arr 2 [.cl 105 [.p 5 0,.p 6 0],.cl 75 []])),(5,some (.box 3 [.v (vI 0)])),(6,some (.box 3 [.v (vI 7)])),(7,some (.arr 4 [.cl 105 [.p 8 0,.p 9 0],.cl 75 [],.cl 109 [.p 10 0],.cl 73 []])),(8,some (.box 3 [.v (vI 0)])),(9,some (.box 3 [.v (vI 7)])),(10,some (.box 23 [.h 11 0])),(11,some (.own 11 (.l 1 eStr X0))),(12,some (.arr 6 [.cl 73 [],.cl 105 [.p 13 0,.p 14 0],.cl 109 [.p 15 0],.cl 75 [],.cl 75 [],.cl 105 [.p 17 0,.p 18 0]])),(13,some (.box 3 [.v (vI 0)])),(14,some (.box 3 [.v (vI 99)])),(15,some (.box 23 [.h 16 0])),(16,some (.own 16 (.l 1 eStr Xp))),(17,some (.box 3 [.v (vI 0)])),(18,some (.box 3 [.v (vI 7)])),(19,some (.arr 2 [.cl 75 [],.cl 77 []])),(20,some (.arr 3 [.cl 77 [],.cl 105 [.p 21 0,.p 22 0],.cl 105 [.p 23 0,.p 24 0]])),(21,some (.box 3 [.v (vI 1)])),(22,some (.box 3 [.v (vI 9)])),(23,some (.box 3 [.v (vI 1)])),(24,some (.box 3 [.v (vI 999999)])),(25,some (.arr 4 [.cl 75 [],.cl 77 [],.cl 105 [.p 26 0,.p 27 0],.cl 105 [.p 26 0,.p 27 0]])),(26,some (.box 3 [.v (vI 1)])),(27,some (.box 3 [.v (vI 65535)])),(28,some (.arr 4 [.cl 105 [.p 29 0,.p 30 0],.cl 105 [.p 26 0,.p 27 0],.cl 77 [],.cl 105 [.p 26 0,.p 27 0]])),(29,some (.box 3 [.v (vI 1)])),(30,some (.box 3 [.v (vI 7)]))],31⟩:St)) (fun _=>True) (fun (x:Nat->SV)=>(⟨[(1,some (.p 0 0)),(5,some (.h 1 0)),(8,some (.h 2 0))],[(0,some (.box 9 [.v (.string word)])),(1,some (.own 1 (.l 3 eformR (raw48 x)))),(2,some (.own 2 (.x (LX (know48 x)))))],31⟩:St)) (fun _=>True) (.reg [(4,kh72f 0 7),(7,kh72f 0 7),(8,.dat (.l 1 eStr X0)),(9,kh76f X0),(12,kh72f 0 99),(13,.dat (.l 1 eStr Xp)),(14,kh76f Xp),(15,kh72f 0 7),(20,kh72f 1 9),(21,kh72f 1 999999)]) (fun (x:Nat->SV)=>.hnd (ι:=Unit) (κ:=Unit) (fun _=>(⟨[(2,some (.h 0 0)),(8,some (.h 1 0))],[(0,some (.own 0 (.l 3 eformR ((raw48 x).filter (fun x=>!((fun (x0:formR)=>F79 x0 word) x)))))),(1,some (.own 1 (.x (LX (know48 x)))))],2⟩:St)) (fun _=>True) (fun (_:Unit)=>(⟨[(2,some (.h 0 0))],[(0,some (.own 0 (.b (.l 3 eform (all48.filter (fun z=>z.word.toList==word.toList))))))],2⟩:St)) (fun _=>True) (.reg [(2,.call 78 (S78 ((raw48 x).filter (fun x=>!((fun (x0:formR)=>F79 x0 word) x))) (raw48 x) (fun (x0:formR)=>F79 x0 word) (fun (x0:formR)=>True)) (oa78 (raw48 x) (fun (x0:formR)=>F79 x0 word) (fun (x0:formR)=>True)) (some ⟨true,79,fsQ100 (fun (x0:formR)=>True) (fun (x0:formR)=>F79 x0 word),[.rp ([.v (.string word)])],rfl,True,fun i=>ok_pxH (ok79 i word)⟩))]) (fun (_:Unit)=>.no))))) Tryz.func48 (fun (_:True)=>kc72 1 65535 (kc72 1 7 (ai (kc72 0 7 (kc72 0 7 (ai (bokr 1 eStr X0 fun _=>rfl) (kc76 X0 (kc72 0 99 (ai (bokr 1 eStr Xp fun _=>rfl) (kc76 Xp (kc72 0 7 (kc72 1 9 (kc72 1 999999 (Exists.intro (p:=fun (_:Unit)=>((.string word:Value)=.string word)/\((.string Zn:Value)=.string Zn)/\((.int .i64 1:Value)=.int .i64 1)/\((.string Zk:Value)=.string Zk)/\((.int .i64 2:Value)=.int .i64 2)/\((.string Zf:Value)=.string Zf)/\((.int .i64 2:Value)=.int .i64 2)/\((.string Zf:Value)=.string Zf)/\((.int .i64 2:Value)=.int .i64 2)/\((.string Zh:Value)=.string Zh)/\((.int .i64 3:Value)=.int .i64 3)/\((.string Zq:Value)=.string Zq)/\((.int .i64 3:Value)=.int .i64 3)/\((.string Zp:Value)=.string Zp)/\((.int .i64 2:Value)=.int .i64 2)/\((.string Ze:Value)=.string Ze)/\((.int .i64 1:Value)=.int .i64 1)/\((.string Zj:Value)=.string Zj)/\((.int .i64 3:Value)=.int .i64 3)/\((.int .i64 0:Value)=.int .i64 0)/\((.int .i64 7:Value)=.int .i64 7)/\((.int .i64 0:Value)=.int .i64 0)/\((.int .i64 7:Value)=.int .i64 7)/\(Imp (.l 1 eStr X0) (.l 1 eStr X0))/\((.int .i64 0:Value)=.int .i64 0)/\((.int .i64 99:Value)=.int .i64 99)/\(Imp (.l 1 eStr Xp) (.l 1 eStr Xp))/\((.int .i64 0:Value)=.int .i64 0)/\((.int .i64 7:Value)=.int .i64 7)/\((.int .i64 1:Value)=.int .i64 1)/\((.int .i64 9:Value)=.int .i64 9)/\((.int .i64 1:Value)=.int .i64 1)/\((.int .i64 999999:Value)=.int .i64 999999)/\((.int .i64 1:Value)=.int .i64 1)/\((.int .i64 65535:Value)=.int .i64 65535)/\((.int .i64 1:Value)=.int .i64 1)/\((.int .i64 7:Value)=.int .i64 7)/\True) () (ai rfl (ai rfl (ai rfl (ai rfl (ai rfl (ai rfl (ai rfl (ai rfl (ai rfl (ai rfl (ai rfl (ai rfl (ai rfl (ai rfl (ai rfl (ai rfl (ai rfl (ai rfl (ai rfl (ai rfl (ai rfl (ai rfl (ai rfl (ai ir (ai rfl (ai rfl (ai ir (ai rfl (ai rfl (ai rfl (ai rfl (ai rfl (ai rfl (ai rfl (ai rfl (ai rfl (ai rfl trivial)))))))))))))))))))))))))))))))))))))))))))))))) (ai (hk48_0 word) (fun (x:Nat->SV) (_:True)=>ai (ai (ai (by exact (by decide:(9:Nat)<=1000000000):(raw48 x).length<=1000000000) (by (intros; exact trivial):∀ k:Nat,k<(raw48 x).length->(fun (x0:formR)=>True) ((raw48 x).getD k default))) (ai (Imp.refl (.l 3 eformR (raw48 x))) (ai (Eq.refl (fsQ100 (fun (x0:formR)=>True) (fun (x0:formR)=>F79 x0 word))) (ai trivial (ai (Imps.refl [.v (.string word)]) (Exists.intro (p:=fun (_:Unit)=>(Imp (.l 3 eformR ((raw48 x).filter (fun x=>!((fun (x0:formR)=>F79 x0 word) x)))) (.l 3 eformR ((raw48 x).filter (fun x=>!((fun (x0:formR)=>F79 x0 word) x)))))/\(Imp (.x (LX (know48 x))) (.x (LX (know48 x))))/\True) () (ai ir (ai ir trivial)))))))) (ai (hk48_1 word x) (fun (_:Unit) (_:True)=>(fun hF:((all48.filter (fun z=>z.word.toList==word.toList)):List form)=(F48 word)=>ai (Imp.of_eq (Qg (fun r:List form=>Dat.b (Dat.l 3 eform r)) hF)) trivial) rfl))))))) uu2
theorem g48_0 (word:Za):∀ k:Nat,((F48 word).getD k default).checks.length<=6:=by
 have hall:∀ z∈all48,z.checks.length<=6:=by
  intro z hz
  simp only [all48,Qr,Rd,Tu] at hz
  rcases hz with rfl | rfl | rfl | rfl | rfl | rfl | rfl | rfl | rfl <;> decide
 intro k
 rw [Qd]
 cases h:(F48 word)[k]? with
 | none=>exact Rj 6
 | some z=>exact hall z (Hc.1 (Q7 h)).1
def F49_s0 (f:form) (words:List Za):Int->Lp Int Bool:=fun v17 =>
 bif (decide (v17<(f.checks.length:Int))) then (bif (!((f.checks.getD v17.toNat default) (words.getD (v17+1).toNat default))) then (.ret false) else (.next (v17+1))) else (.done v17)
def F49 (f:form) (words:List Za):Bool :=
 bif ((words.length:Int) != ((f.checks.length:Int)+1)) then false else ((runL (F49_s0 f words) (((f.checks.length:Int)-0).toNat+1) 0).fin (fun r=>r) (fun v17=>true))
abbrev lN49_0 (f:form):Nat×Int:=((((f.checks.length:Int)-0).toNat+1),0)
abbrev lI49_0 (f:form) (m39:Nat) (v17:Int):Prop:=Int.toNat ((f.checks.length:Int)-v17)<m39/\(0:Int)<=v17
abbrev lX49_0 (f:form) (words:List Za):Lp Int Bool:=LpX (F49_s0 f words) (lN49_0 f)
abbrev lJ49_0 (f:form) (words:List Za) (i:Nat×Int):Prop:=LpJ (F49_s0 f words) (lN49_0 f) i (lI49_0 f i.1 i.2)
abbrev lH49_0 (f:form) (words:List Za) (i:Nat×Int) (m39:Nat) (v17:Int):Prop:=LpH (F49_s0 f words) (lN49_0 f) i m39 v17 (lI49_0 f (m39+1) v17)
abbrev lE49_0 (f:form) (words:List Za) (v17:Int) (v17_:Int) (K39:Prop):Prop:=(Rf (.int .i64 (f.checks.length:Int)))/\((.int .i64 v17:Value)=.int .i64 v17_)/\(Im (.l 1 eStr words))/\(Im (.l 1 eFn54 f.checks))/\K39
theorem un49_0 (f:form) (words:List Za) (i:Nat×Int) (h:lJ49_0 f words i):lH49_0 f words i (i.1-1) i.2:=⟨hd1 h.1 h.2.1,hd3 h.2.1,hd2 h.2.1,h.2.2⟩
theorem bk49_0 (f:form) (words:List Za) (i:Nat×Int) (m39:Nat) (v17:Int) (hl:m39<i.1) (e:runL (F49_s0 f words) m39 v17=lX49_0 f words) (h:lI49_0 f m39 v17):∃ j:Nat×Int,lE49_0 f words v17 j.2 (lJ49_0 f words j/\j.1<i.1):=⟨(m39,v17),rfl,rfl,Imp.refl _,Imp.refl _,⟨e,h⟩,hl⟩
theorem en49_0 (f:form) (words:List Za) (h:(0:Int)<=0):lE49_0 f words 0 0 (lJ49_0 f words (lN49_0 f)):=⟨rfl,rfl,Imp.refl _,Imp.refl _,rfl,Qt _,h⟩
def S49 (f:form) (words:List Za):Spec:=⟨[.r (.g (eform f)),.r (.c (.l 1 eStr words))],.v (.bool (F49 f words)),f.checks.length<=6/\(∀ k:Nat,(words.getD k default).size<=1048576)⟩
theorem ok49 (f:form) (words:List Za):(S49 f words).ok Tryz.prog 49 false :=
 fnG_ok mixed (fn:=Tryz.f49) (ct:=.seqk [(1,0)] .no (.seq (.seq (.reg [(5,.bnd)]) (.cond (.seq .no .no) .no)) (.seq (.seqk [(1,0),(15,0)] .no (.blk (.loop (ι:=Nat×Int) (fun i=>(fun (v17:Int)=>(⟨[(1,some (.h 0 0)),(15,some (.h 1 0)),(16,some (.v (vI (f.checks.length:Int)))),(17,some (.v (vI v17)))],[(0,some (.shr none (.l 1 eStr words))),(1,some (.shr none (.l 1 eFn54 f.checks)))],2⟩:St)) i.2) (lJ49_0 f words) (fun i=>i.1) (lN49_0 f) (fun i=>(fun (v17:Int)=>(.seq .no (.seq (.cond .no .no) (.seq (.blk (.seq .no (.seq (.reg [(3,.bnd),(6,.fnv (fsB54 (f.checks.getD v17.toNat default)) (words.getD (v17+1).toNat default))]) (.cond (.seq .no .no) .no)))) (.reg [(0,.bnd)]))))) i.2)))) (.seq .no .no)))) Tryz.func49 (fun (hp:f.checks.length<=6/\(∀ k:Nat,(words.getD k default).size<=1048576))=>have hpre0:=hp.1; have hpre1:=hp.2; kn words fun _=>ai (iok ((f.checks.length:Int)+1) uu0) (ifn (words.length:Int) ((f.checks.length:Int)+1) (fun h1 _=>fiB false (F49 f words) (condT h1 rfl)) (fun h1 _=>kn words fun _=>kn f.checks fun _=>ai (en49_0 f words uu0) (fun (i0:Nat×Int) (hi0:lJ49_0 f words i0)=>(fun (m0:Nat) (v17:Int) (hh0:lH49_0 f words i0 m0 v17)=>have hI0:=hh0.1; have hl0:=hh0.2.1; have _:=hh0.2.2.1; have _:=hh0.2.2.2; ifd (v17<(f.checks.length:Int)) (fun h3 _=>ai (uu0:ib v17 f.checks) (ai (iok (v17+1) uu0) (ai (uu0:ib (v17+1) words) (ai (Eq.refl (FnX Tryz.prog (fsB54 (f.checks.getD v17.toNat default)))) (ai (Imp.bx (by exact hpre1 _:(words.getD (v17+1).toNat default).size<=1048576)) (ifb (!((f.checks.getD v17.toNat default) (words.getD (v17+1).toNat default))) (fun h4=>have _:=(notET h4); fiB false (F49 f words) (condF h1 (finR (runL_ret hI0 (condT h3 (condT h4 rfl))) rfl))) (fun h4=>have _:=(notEF h4); ai (iok (v17+1) uu0) (bk49_0 f words i0 m0 (v17+1) hl0 (runL_next hI0 (condT h3 (condF h4 rfl))) uu7)))))))) (fun h3 _=>have hD0_5:lX49_0 f words=Lp.done v17:=runL_done hI0 (condF h3 rfl); fiB true (F49 f words) (condF h1 (finD hD0_5 rfl)))) (i0.1-1) i0.2 (un49_0 f words i0 hi0))))) uu2
theorem kc48 (word:Za) {K_:Prop} (k_:(∀ k:Nat,((F48 word).getD k default).checks.length<=6)->K_):(True)/\(Imp (.v (.string word)) (.v (.string word)))/\K_:=⟨trivial,Imp.refl _,k_ (g48_0 word)⟩
abbrev kh48 (word:Za):Hint false Tryz.prog:=.call 48 (S48 word) (ok48 word) none
theorem kc49 (f:form) (words:List Za) {K_:Prop} (p0_:f.checks.length<=6) (p1_:∀ k:Nat,(words.getD k default).size<=1048576) (k_:K_):(f.checks.length<=6/\(∀ k:Nat,(words.getD k default).size<=1048576))/\(Imps (eform f) (eform f))/\(Imp (.l 1 eStr words) (.l 1 eStr words))/\K_:=⟨⟨p0_,p1_⟩,Imps.refl _,Imp.refl _,k_⟩
abbrev kh49 (f:form) (words:List Za):Hint false Tryz.prog:=.call 49 (S49 f words) (ok49 f words) none
def F33_s0 (words:List Za):Int->Lp Int (form×Bool):=fun v15 =>
 bif (decide (v15<((F48 (words.getD (Int.toNat 0) default)).length:Int))) then (bif (F49 ((F48 (words.getD (Int.toNat 0) default)).getD v15.toNat default) words) then (.ret (((F48 (words.getD (Int.toNat 0) default)).getD v15.toNat default),true)) else (.next (v15+1))) else (.done v15)
def F33 (words:List Za):form×Bool :=
 bif ((words.length:Int)==0) then ((⟨Zc,0,[]⟩:form),false) else ((runL (F33_s0 words) ((((F48 (words.getD (Int.toNat 0) default)).length:Int)-0).toNat+1) 0).fin (fun r=>r) (fun v15=>((⟨Zc,0,[]⟩:form),false)))
abbrev lN33_0 (words:List Za):Nat×Int:=(((((F48 (words.getD (Int.toNat 0) default)).length:Int)-0).toNat+1),0)
abbrev lI33_0 (words:List Za) (m39:Nat) (v15:Int):Prop:=Int.toNat (((F48 (words.getD (Int.toNat 0) default)).length:Int)-v15)<m39/\(0:Int)<=v15
abbrev lX33_0 (words:List Za):Lp Int (form×Bool):=LpX (F33_s0 words) (lN33_0 words)
abbrev lJ33_0 (words:List Za) (i:Nat×Int):Prop:=LpJ (F33_s0 words) (lN33_0 words) i (lI33_0 words i.1 i.2)
abbrev lH33_0 (words:List Za) (i:Nat×Int) (m39:Nat) (v15:Int):Prop:=LpH (F33_s0 words) (lN33_0 words) i m39 v15 (lI33_0 words (m39+1) v15)
abbrev lE33_0 (words:List Za) (v15:Int) (v15_:Int) (K39:Prop):Prop:=(Rf (.int .i64 ((F48 (words.getD (Int.toNat 0) default)).length:Int)))/\((.int .i64 v15:Value)=.int .i64 v15_)/\(Im (.l 1 eStr words))/\(Rf (.string Zc))/\(Rf (.int .i64 0))/\(Rf (.slice none 0 0))/\(Im (.b (.l 3 eform (F48 (words.getD (Int.toNat 0) default)))))/\K39
theorem un33_0 (words:List Za) (i:Nat×Int) (h:lJ33_0 words i):lH33_0 words i (i.1-1) i.2:=⟨hd1 h.1 h.2.1,hd3 h.2.1,hd2 h.2.1,h.2.2⟩
theorem bk33_0 (words:List Za) (i:Nat×Int) (m39:Nat) (v15:Int) (hl:m39<i.1) (e:runL (F33_s0 words) m39 v15=lX33_0 words) (h:lI33_0 words m39 v15):∃ j:Nat×Int,lE33_0 words v15 j.2 (lJ33_0 words j/\j.1<i.1):=⟨(m39,v15),rfl,rfl,Imp.refl _,rfl,rfl,rfl,Imp.refl _,⟨e,h⟩,hl⟩
theorem en33_0 (words:List Za) (h:(0:Int)<=0):lE33_0 words 0 0 (lJ33_0 words (lN33_0 words)):=⟨rfl,rfl,Imp.refl _,rfl,rfl,rfl,Imp.refl _,rfl,Qt _,h⟩
def S33 (words:List Za):Spec:=⟨[.r (.c (.l 1 eStr words))],.tu [.ag [.v (.string (F33 words).1.word),.v (vI (F33 words).1.key),.ow .any],.v (.bool (F33 words).2)],(∀ k:Nat,(words.getD k default).size<=1048576)⟩
theorem ok33 (words:List Za):(S33 words).ok Tryz.prog 33 false :=
 fnG_ok mixed (fn:=Tryz.f33) (ct:=.seqk [(0,0)] .no (.seq (.seq .no (.cond (.seq .no .no) .no)) (.seq (.seqk [(0,0),(13,0)] (.reg [(3,kh48 (words.getD (Int.toNat 0) default))]) (.blk (.loop (ι:=Nat×Int) (fun i=>(fun (v15:Int)=>(⟨[(0,some (.h 0 0)),(2,some (.p 1 0)),(13,some (.h 2 0)),(14,some (.v (vI ((F48 (words.getD (Int.toNat 0) default)).length:Int)))),(15,some (.v (vI v15)))],[(0,some (.shr none (.l 1 eStr words))),(1,some (.box 58 [.v (.string Zc),.v (vI 0),.v (.slice none 0 0)])),(2,some (.own 2 (.b (.l 3 eform (F48 (words.getD (Int.toNat 0) default))))))],3⟩:St)) i.2) (lJ33_0 words) (fun i=>i.1) (lN33_0 words) (fun i=>(fun (v15:Int)=>(.seq .no (.seq (.cond .no .no) (.seq (.blk (.seq .no (.seq (.reg [(2,kh49 ((F48 (words.getD (Int.toNat 0) default)).getD v15.toNat default) words)]) (.cond (.seq .no .no) .no)))) (.reg [(0,.bnd)]))))) i.2)))) (.seq .no .no)))) Tryz.func33 (fun (hpre0:∀ k:Nat,(words.getD k default).size<=1048576)=>kn words fun _=>ife (words.length:Int) 0 (fun h1 _=>(fun hF:((⟨Zc,0,[]⟩:form),false)=(F33 words)=>ai (Qg (fun r:form×Bool=>(.string r.1.word:Value)) hF) (ai (Qg (fun r:form×Bool=>(.int .i64 r.1.key:Value)) hF) (ai (Qg (fun r:form×Bool=>(.bool r.2:Value)) hF) trivial))) (condT h1 rfl)) (fun h1 _=>ai (uu0:ib 0 words) (kc48 (words.getD (Int.toNat 0) default) (fun gv2=>kn words fun _=>kn (F48 (words.getD (Int.toNat 0) default)) fun _=>ai (en33_0 words uu0) (fun (i0:Nat×Int) (hi0:lJ33_0 words i0)=>(fun (m0:Nat) (v15:Int) (hh0:lH33_0 words i0 m0 v15)=>have hI0:=hh0.1; have hl0:=hh0.2.1; have _:=hh0.2.2.1; have _:=hh0.2.2.2; ifd (v15<((F48 (words.getD (Int.toNat 0) default)).length:Int)) (fun h4 _=>ai (uu0:ib v15 (F48 (words.getD (Int.toNat 0) default))) (kc49 ((F48 (words.getD (Int.toNat 0) default)).getD v15.toNat default) words (by exact gv2 _) uu17 (ifb (F49 ((F48 (words.getD (Int.toNat 0) default)).getD v15.toNat default) words) (fun h5=>(fun hF:(((F48 (words.getD (Int.toNat 0) default)).getD v15.toNat default),true)=(F33 words)=>ai (Qg (fun r:form×Bool=>(.string r.1.word:Value)) hF) (ai (Qg (fun r:form×Bool=>(.int .i64 r.1.key:Value)) hF) (ai (Qg (fun r:form×Bool=>(.bool r.2:Value)) hF) trivial))) (condF h1 (finR (runL_ret hI0 (condT h4 (condT h5 rfl))) rfl))) (fun h5=>ai (iok (v15+1) uu0) (bk33_0 words i0 m0 (v15+1) hl0 (runL_next hI0 (condT h4 (condF h5 rfl))) uu7))))) (fun h4 _=>have hD0_6:lX33_0 words=Lp.done v15:=runL_done hI0 (condF h4 rfl); (fun hF:((⟨Zc,0,[]⟩:form),false)=(F33 words)=>ai (Qg (fun r:form×Bool=>(.string r.1.word:Value)) hF) (ai (Qg (fun r:form×Bool=>(.int .i64 r.1.key:Value)) hF) (ai (Qg (fun r:form×Bool=>(.bool r.2:Value)) hF) trivial))) (condF h1 (finD hD0_6 rfl)))) (i0.1-1) i0.2 (un33_0 words i0 hi0)))))) uu2
end Go.Proofs.YtpeklolpimhioaaGreatDoor
