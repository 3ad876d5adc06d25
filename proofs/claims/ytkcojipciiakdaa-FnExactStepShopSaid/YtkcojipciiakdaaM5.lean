/-
  A part of the proof: contracts and plain forms of functions beneath the statement, made small by a program (names shortened, what is not needed left out).
-/
import Derived.Test.YtkcojipciiakdaaRows
import Derived.Test.YtkcojipciiakdaaM4
import Derived.Laws.OwnMore
open Go.Lib renaming frozen_of_heap → HA, cell_of_heap → HB
open Nat renaming le_refl → HC, lt_or_ge → HK, zero_le → Ii, lt_of_lt_of_le → Im, zero_add → IF, add_assoc → IM, le_trans → IV
open Go.IntKind renaming i64 → HD
open List renaming length_map → HE, getElem?_set_ne → HH, replicate → HL, eq_nil_of_length_eq_zero → HN, getElem_mem → HO, mem_of_getElem? → HU, getElem?_cons_zero → HW, getElem?_cons_succ → HX, length_drop → HY, getElem?_set_self → HZ, getElem_cons_succ → Ia, mem_map → Ib, getElem?_toArray → Ic, length_singleton → Ie, getD_eq_getElem?_getD → Ig, getElem?_eq_some_iff → Ih, take_succ_eq_append_getElem → Ij, getElem?_eq_getElem → Ik, getElem?_replicate → Il, length_take → In, getElem?_append_right → Ip, drop_eq_getElem_cons → Iq, set_cons_zero → Ir, getElem?_eq_none → Iv, map_append → Iw, drop_zero → Ix, length → Iy, length_append → Iz, setIfInBounds_toArray → IA, append_assoc → IB, getElem?_append_left → ID, cons_append → IE, take_length → IG, length_nil → IH, drop_eq_nil_of_le → IJ, set_append_right → IK, map_cons → IP, replicate_succ → IQ, set_cons_succ → IU, ext_getElem? → IX, nil_append → IY, mem_append → Ja, drop_drop → Jb
open Option.some renaming inj → HG
open Bool renaming and_eq_true → HI, not_eq_true' → It
open Option renaming map → HJ, bind_some → HT
open Go.Proofs renaming enters_of → HM
open Go.World renaming setCell → HQ, cell?_of_block → Io
open ByteArray renaming empty → HR
open Array renaming getElem?_eq_some_iff → HS
open Go.Op renaming bytesLess → HV
open Int renaming toNat_natCast → Iu
open Go.RowKit.Below renaming refl → IC
open Go.Builtin renaming append_ → II, firstCells → IW, lenOf → Jd
open Go.Value renaming ownBlock → IL, agg → Jc
open List.cons renaming injEq → IZ
set_option maxRecDepth 100000
set_option linter.unusedSimpArgs false
set_option linter.unusedVariables false
noncomputable section
namespace Go.Proofs.Ytkcojipciiakdaa
open Go Go.Proofs Go.V Go.RowKit
set_option maxRecDepth 100000
theorem wN:∀(l:List Fm) (ys:List Value) (i:Nat) (x:Fm) (y:Value),i<l.length→ys.length=l.length→aV (l.set i x) (ys.set i y)=((((aV l ys).set (i*4) (.int .i64 x.1)).set (i*4+1) y).set (i*4+2) (.bool x.2.2.1)).set (i*4+3) (.int .i64 x.2.2.2)
 | a::l,b::ys,0,x,y,_,_=>by simp [aV,dn]
 | a::l,b::ys,i+1,x,y,h1,h2=>by
  have ih:=wN l ys i x y (by simpa using h1) (by simpa using h2);simp only [aV,IU,dn,IE,IY];rw [ih];have e0:(i+1)*4=i*4+4:=by omega
  simp [e0,IM,IU]
 | [],_,_,_,_,h1,_=>by simp at h1
 | _::_,[],_,_,_,_,h2=>by simp at h2
abbrev GS (w:World) (g i:Nat) (x:Fm) (y:Value):World:=(((w.setCell ⟨g,i*4,none⟩ (.int .i64 x.1)).setCell ⟨g,i*4+1,none⟩ y).setCell ⟨g,i*4+2,none⟩ (.bool x.2.2.1)).setCell ⟨g,i*4+3,none⟩ (.int .i64 x.2.2.2)
theorem ta (w:World) (g i:Nat) (x:Fm) (y:Value) {b:Nat} (h:b≠g):(GS w g i x y).heap[b]?=w.heap[b]?:=by
 rw [heap_setCell_other _ _ _ _ (by simpa using h),heap_setCell_other _ _ _ _ (by simpa using h),heap_setCell_other _ _ _ _ (by simpa using h),heap_setCell_other _ _ _ _ (by simpa using h)]
theorem CK {w:World} {B g cap:Nat} {l:List Fm} {ys:List Value} (h:FmsAt w B (.slice (some ⟨g,0,none⟩) l.length cap) ys l) {i:Nat} (hi:i<l.length) (x:Fm) (y:Value) (hy:bf w (fun _=>False) (aA y) 1 (txs x.2.1) y)
  (hb:∀b,aA y b→B≤b∧b≠g) (hd:∀j z,j≠i→ys[j]?=some z→y.ownBlock=none∨y.ownBlock≠z.ownBlock) :
  FmsAt (GS w g i x y) B (.slice (some ⟨g,0,none⟩) l.length cap) (ys.set i y) (l.set i x):=by
 refine⟨by simp [h.len],?_,fun j x' y' hj hyj=>?_,fun j y' b hyj hb'=>?_,fun j k y' z' hjk hj hk=>?_⟩
 ·rw [List.length_set,wN l ys i x y hi h.len]
  exact bN (bN (bN (bN h.own rfl _ _) rfl _ _) rfl _ _) rfl _ _
 ·by_cases e:j=i
  ·subst e
   rw [HZ hi] at hj;rw [HZ (by rw [h.len];exact hi)] at hyj;obtain rfl:=HG hj;obtain rfl:=HG hyj;exact aJ hy fun b hb1=>ta _ _ _ _ _ (hb b hb1).2
  ·rw [HH (fun h=>e h.symm)] at hj hyj
   exact aJ (h.row j x' y' hj hyj) fun b hb1=>ta _ _ _ _ _ fun h1=>(h.blk j y' b hyj hb1).2 (by rw [h1];rfl)
 ·by_cases e:j=i
  ·subst e
   rw [HZ (by rw [h.len];exact hi)] at hyj;obtain rfl:=HG hyj;exact⟨(hb b hb').1,fun h1=>(hb b hb').2 (HG h1).symm⟩
  ·rw [HH (fun h=>e h.symm)] at hyj
   exact h.blk j y' b hyj hb'
 ·by_cases e:j=i
  ·subst e
   rw [HZ (by rw [h.len];exact hi)] at hj;obtain rfl:=HG hj;rw [HH hjk] at hk;exact hd k z' (fun h=>hjk h.symm) hk
  ·rw [HH (fun h=>e h.symm)] at hj
   by_cases e2:k=i
   ·subst e2
    rw [HZ (by rw [h.len];exact hi)] at hk;obtain rfl:=HG hk;rcases hd j y' e hj with h1 | h1
    ·rw [h1]
     cases y'.ownBlock<;>simp
    ·exact .inr fun h2=>h1 h2.symm
   ·rw [HH (fun h=>e2 h.symm)] at hk
    exact h.dis j k y' z' hjk hj hk
def zFm:Fm:=(0,[],false,0)
theorem Af:∀n,aV (HL n zFm) (HL n (.slice none 0 0))=(madeCells (Jc #[.int .i64 0,.slice none 0 0,.bool false,.int .i64 0]).cells (n*4)).toList:=by
 intro n;apply IX;intro j;have hl:(aV (HL n zFm) (HL n (.slice none 0 0))).length=n*4:=by rw [bD _ _ (by simp)];simp
 by_cases hj:j<n*4
 ·have h1:=aE (HL n zFm) (HL n (.slice none 0 0)) (j / 4) zFm (.slice none 0 0) (by rw [Il,if_pos (by omega)]) (by rw [Il,if_pos (by omega)]) (j % 4) (by omega)
  rw [show j / 4*4+j % 4=j by omega] at h1;rw [h1];simp only [madeCells,Array.getElem?_toList,Array.getElem?_map,Array.getElem?_range,hj,if_true,Option.map_some];have h4:j % 4=0∨j % 4=1∨j % 4=2∨j % 4=3:=by omega
  have hs:(Jc #[.int .i64 0,.slice none 0 0,.bool false,.int .i64 0]).cells.size=4:=rfl;rw [hs];rcases h4 with e | e | e | e<;>rw [e]<;>rfl
 ·rw [Iv (by omega),Iv (by simp [madeCells];omega)]
theorem dR (w:World) (F own:Nat→Prop) (z:Nat):bf w F own z (.arr z []) (.slice none 0 0):=⟨[],rfl,fun _ h=>by simp at h,.inl ⟨rfl,rfl⟩⟩
theorem Ap {w:World} {B:Nat} {V:Value} {n:Nat} (h:w.ownsRow B 75 4 V n (madeCells (Jc #[.int .i64 0,.slice none 0 0,.bool false,.int .i64 0]).cells (n*4)).toList):FmsAt w B V (HL n (.slice none 0 0)) (HL n zFm):=by
 have hy0:∀{i:Nat} {y:Value},(HL n (Value.slice none 0 0))[i]?=some y→i<n∧y = .slice none 0 0:=fun {i y} hy=>by
  rw [Il] at hy;by_cases h:i<n
  ·rw [if_pos h] at hy
   exact⟨h,(HG hy).symm⟩
  ·rw [if_neg h] at hy
   cases hy
 refine⟨by simp,by rw [Af,List.length_replicate];exact h,fun i x y hx hy=>?_,fun i y b hy hb=>?_,fun i j y z _ hy _=>?_⟩
 ·obtain⟨h1,rfl⟩:=hy0 hy
  rw [Il,if_pos h1] at hx;obtain rfl:=HG hx;exact dR _ _ _ _
 ·obtain⟨_,rfl⟩:=hy0 hy
  cases hb
 ·obtain⟨_,rfl⟩:=hy0 hy
  exact .inl rfl
theorem FmsAt.lt {w:World} {B:Nat} {V:Value} {ys:List Value} {l:List Fm} (h:FmsAt w B V ys l):∀b,FmS V ys b→B≤b∧b<w.heap.size:=by
 rintro b (hb | ⟨y,hy,hb⟩)
 ·exact h.own.lt b hb
 ·obtain⟨i,hi⟩:=List.mem_iff_getElem?.1 hy
  have hl:i<l.length:=by rw [←h.len];exact(Ih.1 hi).1
  exact⟨(h.blk i y b hi hb).1,cd (h.row i l[i] y (by simp) hi) b hb⟩
theorem FmsAt.keep {w w':World} {B:Nat} {V:Value} {ys:List Value} {l:List Fm} (h:FmsAt w B V ys l) (hk:∀b,FmS V ys b→w'.heap[b]?=w.heap[b]?):FmsAt w' B V ys l:=by
 refine⟨h.len,?_,fun i x y hx hy=>aJ (h.row i x y hx hy) fun b hb=>hk b (.inr ⟨y,HU hy,hb⟩),h.blk,h.dis⟩
 obtain⟨h1,h2 | ⟨g,cap,cur,hg,h3,h4,h5⟩⟩:=h.own
 ·exact⟨h1,.inl h2⟩
 ·exact⟨h1,.inr ⟨g,cap,cur,hg,h3,(hk g (.inl (by rw [aA,hg];rfl))).trans h4,h5⟩⟩
theorem FmsAt.base {w:World} {B B':Nat} {V:Value} {ys:List Value} {l:List Fm} (h:FmsAt w B V ys l) (hb:B'≤B):FmsAt w B' V ys l:=by
 refine⟨h.len,?_,h.row,fun i y b hy hyb=>⟨IV hb (h.blk i y b hy hyb).1,(h.blk i y b hy hyb).2⟩,h.dis⟩
 obtain⟨h1,h2 | ⟨g,cap,cur,hg,h3,h4,h5⟩⟩:=h.own
 ·exact⟨h1,.inl h2⟩
 ·exact⟨h1,.inr ⟨g,cap,cur,hg,IV hb h3,h4,h5⟩⟩
theorem tL {w:World} {F:Nat→Prop} {l:List Fm} {us:List Value} (h:bw w F (l.map fm) us) {i:Nat} (hi:i<l.length) :
  ∃A n c,us[i*4]?=some (.int .i64 l[i].1)∧us[i*4+1]?=some (.slice A n c)∧us[i*4+2]?=some (.bool l[i].2.2.1)∧us[i*4+3]?=some (.int .i64 l[i].2.2.2)∧aQ w F (txs l[i].2.1) (.slice A n c):=by
 obtain⟨p,m,q,rfl,hp,hm,hc,_⟩:=pK (z:=4) _ _ h (fun d hd=>by obtain⟨x,_,rfl⟩:=Ib.1 hd;rfl) i (fm l[i]) (by simp [hi]);simp only [RepC,aC,aP] at hc;obtain⟨⟨v1,v2,rfl,⟨rfl,_⟩,v3,v4,rfl,hx,v5,v6,rfl,⟨rfl,_⟩,v7,v8,rfl,⟨rfl,_⟩,rfl⟩,_⟩:=hc;obtain⟨A,c,us',rfl,h2⟩:=hx;refine⟨A,_,c,?_,?_,?_,?_,⟨A,c,us',rfl,h2⟩⟩<;>rw [IB,Ip (by omega),hp]<;>simp [show ∀k,i*4+k - i*4=k from fun k=>by omega]
def toF (l:List Fm) (i:Nat):List Fm:=l.take i++HL (l.length - i) zFm
def toY (vs:List Value) (n:Nat):List Value:=vs++HL (n - vs.length) (.slice none 0 0)
theorem oK (l:List Fm) {i:Nat} (h:i≤l.length):(toF l i).length=l.length:=by simp [toF];omega
theorem Dn (l:List Fm) {i:Nat} (h:i<l.length):toF l (i+1)=(toF l i).set i l[i]:=by
 unfold toF;rw [Ij h,IK _ _ (by rw [In];omega),In,Nat.min_eq_left (Nat.le_of_lt h),Nat.sub_self,show l.length - i=(l.length - (i+1))+1 by omega,IQ,Ir,IB,List.singleton_append]
theorem DV (vs:List Value) {n:Nat} (v:Value) (h:vs.length<n):toY (vs++[v]) n=(toY vs n).set vs.length v:=by
 unfold toY;rw [IK _ _ (HC _),Nat.sub_self,show n - vs.length=(n - (vs++[v]).length)+1 by simp;omega,IQ,Ir];simp
theorem fy:(Try.prog.info? 75).map (fun i=>(i.zero,i.size,i.bytes))=some (some (.agg #[.int .i64 0,.slice none 0 0,.bool false,.int .i64 0]),4,48):=by kernel_rfl
set_option maxHeartbeats 4000000 in
set_option maxRecDepth 1000000 in
theorem vm (l:List Fm) (hln:l.length≤1048576) (hls:∀x∈l,x.2.1.length≤1048576) (y0:Value) (w:World) (F:Nat→Prop) (hr:aQ w F (fms l) y0) (hF:∀b,F b→b<w.heap.size) :
  Calls Try.prog 43 #[y0] w fun e w'=>∃g cap ys,e = .returned (.slice (some ⟨g,0,none⟩) l.length cap)∧FmsAt w' w.heap.size (.slice (some ⟨g,0,none⟩) l.length cap) ys l∧Below w.heap.size w w':=by
 obtain⟨i0,hi0,hz0,hz1,hz2⟩:=info_parts fy;obtain⟨A,c,us,e0,hc0,hus,_,hA⟩:=hr;simp only [IZ,and_true,HE] at e0;subst e0;rw [HE] at hc0
 go_enter Try.func43,Try.ntmps43
 go_wp2_with (at_make;refine wpList_make_full _ rfl _ _ _ rfl w.heap.size 75 i0 _ 4 (by kernel_rfl) hi0 hz0 hz1 _ _ _ _ l.length rfl rfl rfl rfl (by rw [hz2];omega) (by unfold maxLen;omega) (HC _) ?_)
 intro w1 hown1 hg1
 go_wp2
 go_loopw [4] (fun vi wr=>∃(i:Nat) (vs:List Value),vi = .int .i64 i∧i≤l.length∧vs.length=i∧FmsAt wr w.heap.size (.slice (some ⟨w.heap.size,0,none⟩) l.length l.length) (toY vs l.length) (toF l i)∧Below w.heap.size w wr) (fun vi _=>l.length - (intOf vi).toNat)
 case atStart =>
  refine⟨0,[],rfl,Ii _,rfl,?_,hg1.os,hg1.tape,hg1.output,hg1.size,fun b hb=>hg1.block b hb (by simp)⟩
  have:=Ap hown1;simpa [toF,toY] using this
 case round =>
  obtain⟨i,vs,rfl,hin,hvs,hF1,hB⟩:=hrel;by_cases hp:i<l.length
  ·have hpi:(i:Int)<(l.length:Int):=by omega
   obtain⟨b,o,rfl,hFb,hcell⟩:=hA (by intro h;simp at h;subst h;simp at hp);obtain⟨A',n',c',u0,u1,u2,u3,hry⟩:=tL hus hp;have hcb:∀{k:Nat} {u:Value},us[k]?=some u→wr.cell? ⟨b,o+k,none⟩=some u:=fun {k u} hu=>(Io (w:=w) (hB.block b (hF b hFb))).trans (hcell k u hu)
   have c0:=hcb u0;have c1:=hcb u1;have c2:=hcb u2;have c3:=hcb u3;simp only [←IM] at c1 c2 c3;have hxl:=hls l[i] (HO hp);have hcall:=xO l[i] hxl (.slice A' n' c') wr F (aI (fun _ h=>h) (fun b hb=>hB.block b (hF b hb)) hry) (fun b hb=>Im (hF b hb) hB.size);have hsucc:=Dn l hp;generalize l[i]=x at *
   go_wp2_with (go_at_call 82;refine hcall.mono ?_)
   rintro e w4 ⟨v,rfl,hv,hvb,hB4⟩;obtain⟨A4,n4,c4,rfl⟩:=aU hv;have hlt1:=hF1.lt;have hF4:=hF1.keep (w':=w4) fun b hb=>hB4.block b (hlt1 b hb).2
   have hown4:=hF4.own;rw [oK l hin] at hown4;have hg:w.heap.size<wr.heap.size:=(hlt1 _ (.inl rfl)).2;have hrl:(aV (toF l i) (toY vs l.length)).length=l.length*4:=by rw [bD _ _ (by simp [toF,toY];omega),oK l hin]
   generalize hrw:aV (toF l i) (toY vs l.length)=R at *;have k0:∀f,f<4→∃u,R[i*4+f]?=some u:=fun f hf=>⟨_,Ik (by omega)⟩
   obtain⟨z0,q0⟩:=k0 0 (by omega);obtain⟨z1,q1⟩:=k0 1 (by omega);obtain⟨z2,q2⟩:=k0 2 (by omega);obtain⟨z3,q3⟩:=k0 3 (by omega);have hw1:=bN hown4 rfl (i*4) (.int .i64 x.1);have hw2:=bN hw1 rfl (i*4+1) (.slice A4 n4 c4);have hw3:=bN hw2 rfl (i*4+2) (.bool x.2.2.1);have d0:=ax hown4 (j:=i*4) q0;have d1:=ax hw1 (j:=i*4+1) (by rw [HH (by omega)];exact q1);have d2:=ax hw2 (j:=i*4+2) (by rw [HH (by omega),HH (by omega)];exact q2);have d3:=ax hw3 (j:=i*4+3) (by rw [HH (by omega),HH (by omega),HH (by omega)];exact q3);have e0:=aN hown4 (i*4);have e1:=aN hw1 (i*4+1);have e2:=aN hw2 (i*4+2);have e3:=aN hw3 (i*4+3)
   go_wp2
   refine⟨⟨i+1,vs++[.slice A4 n4 c4],congrArg (Value.int .i64) (by omega),by omega,by simp [hvs],?_,?_⟩,?_⟩
   ·rw [hsucc,DV vs _ (by omega),hvs]
    have hp4:=CK (i:=i) (by rw [oK l hin];exact hF4) (by rw [oK l hin];exact hp) x (.slice A4 n4 c4) hv (fun b hb=>by have:=(hvb b hb).1;omega) (fun j z hj hz=>?_)
    ·rw [oK l hin] at hp4
     exact hp4
    ·cases hzb:z.ownBlock with
     | none=>cases (Value.slice A4 n4 c4).ownBlock<;>simp
     | some b =>
       refine .inr fun h=>?_
       have h1:=(hvb b h).1;have h2:=(hlt1 b (.inr ⟨z,HU hz,hzb⟩)).2;omega
   ·exact((((hB.trans (hB4.mono hB.size)).setCell (HC _) _).setCell (HC _) _).setCell (HC _) _).setCell (HC _) _
   ·show l.length - ((i:Int)+1).toNat<l.length - (i:Int).toNat
    omega
  ·have hpi:¬(i:Int)<(l.length:Int):=by omega
   have hie:i=l.length:=by omega
   subst hie
   go_wp2
   go_ret
   refine⟨_,_,rfl,⟨toY vs l.length,?_⟩,hB⟩
   have he:toF l l.length=l:=by simp [toF]
   rwa [he] at hF1
set_option maxRecDepth 100000
theorem xS {w:World} {F own F':Nat→Prop} {z:Nat} {d:D} {y:Value} (h:bf w F own z d y) (h1:∀b,F b→F' b) (h2:∀b,own b→F' b):aQ w F' d y:=by
 obtain⟨l,rfl,hw,⟨rfl,rfl⟩ | ⟨g,o,c,us,cs,e,rfl,hc,hg,hs,hr,hu,ho⟩⟩:=h
 ·exact⟨none,0,[],rfl,HC _,aP.2 rfl,hw,fun h=>absurd rfl h⟩
 ·exact⟨_,c,us,rfl,hc,aX h1 (fun _ _=>rfl) _ _ hr,hw,fun _=>⟨g,o,rfl,h2 g ho,fun i u hi=>by simp [World.cell?,hg,hu i u hi]⟩⟩
theorem AU {w:World} {F:Nat→Prop}:∀(l:List Fm) (ys:List Value),ys.length=l.length→(∀(i:Nat) (x:Fm) (y:Value),l[i]?=some x→ys[i]?=some y→aQ w F (txs x.2.1) y)→bw w F (l.map fm) (aV l ys)
 | [],[],_,_=>aP.2 rfl
 | x::l,y::ys,h,hr=>by
  refine aC.2 ⟨dn x y,aV l ys,rfl,?_,AU l ys (by simpa using h) fun i x y hx hy=>hr (i+1) x y hx hy⟩
  have h0:=hr 0 x y rfl rfl;simp only [RepC,aC,aP];exact⟨⟨[_],[_,_,_],rfl,⟨rfl,rfl⟩,[_],[_,_],rfl,h0,[_],[_],rfl,⟨rfl,rfl⟩,[_],[],rfl,⟨rfl,rfl⟩,rfl⟩,rfl⟩
 | [],_::_,h,_=>by simp at h
 | _::_,[],h,_=>by simp at h
theorem FmsAt.rep {w:World} {B:Nat} {V:Value} {ys:List Value} {l:List Fm} (h:FmsAt w B V ys l):aQ w (FmS V ys) (fms l) V:=by
 have hr:bw w (FmS V ys) (l.map fm) (aV l ys):=AU l ys h.len fun i x y hx hy=>xS (h.row i x y hx hy) (fun _ h=>h.elim) fun b hb=>.inr ⟨y,HU hy,hb⟩
 have hw:∀d∈l.map fm,d.width=4:=fun d hd=>by obtain⟨x,_,rfl⟩:=Ib.1 hd;rfl
 have ho:=h.own;obtain⟨h1,⟨rfl,h2⟩ | ⟨g,cap,cur,rfl,h3,h4,h5,_⟩⟩:=h.own
 ·have:l=[]:=HN h2
  subst this;exact⟨none,0,_,rfl,HC _,hr,hw,fun h=>absurd rfl h⟩
 ·refine⟨_,cap,_,by rw [HE],by rw [HE];exact h5,hr,hw,fun _=>⟨g,0,rfl,.inl rfl,fun i u hi=>?_⟩⟩
  rw [IF];exact ax ho hi
structure ShopAt (w:World) (B:Nat) (v Vb Vf:Value) (ys:List Value) (s:Sp):Prop where
 val:v = .agg #[Vb,Vf,.int .i64 s.2.2.1,.int .i64 s.2.2.2]
 box:bf w (fun _=>False) (aA Vb) 4 (bxs s.1) Vb
 bge:∀b,aA Vb b→B≤b
 fms:FmsAt w B Vf ys s.2.1
 dis:∀b,aA Vb b→¬FmS Vf ys b
def ShS (Vb Vf:Value) (ys:List Value):Nat→Prop:=fun b=>aA Vb b∨FmS Vf ys b
theorem ShopAt.lt {w:World} {B:Nat} {v Vb Vf:Value} {ys:List Value} {s:Sp} (h:ShopAt w B v Vb Vf ys s):∀b,ShS Vb Vf ys b→B≤b∧b<w.heap.size:=by
 rintro b (hb | hb)
 ·exact⟨h.bge b hb,cd h.box b hb⟩
 ·exact h.fms.lt b hb
theorem ShopAt.keep {w w':World} {B:Nat} {v Vb Vf:Value} {ys:List Value} {s:Sp} (h:ShopAt w B v Vb Vf ys s) (hk:∀b,ShS Vb Vf ys b→w'.heap[b]?=w.heap[b]?):ShopAt w' B v Vb Vf ys s :=
 ⟨h.val,aJ h.box fun b hb=>hk b (.inl hb),h.bge,h.fms.keep fun b hb=>hk b (.inr hb),h.dis⟩
theorem ShopAt.below {w w':World} {B:Nat} {v Vb Vf:Value} {ys:List Value} {s:Sp} (h:ShopAt w B v Vb Vf ys s) (hk:Below w.heap.size w w'):ShopAt w' B v Vb Vf ys s:=h.keep fun b hb=>hk.block b (h.lt b hb).2
theorem ShopAt.rep {w:World} {B:Nat} {v Vb Vf:Value} {ys:List Value} {s:Sp} (h:ShopAt w B v Vb Vf ys s):aQ w (ShS Vb Vf ys) (sp s) v:=by
 obtain⟨rfl,h1,_,h2,_⟩:=h;refine⟨[_,_,_,_],rfl,?_⟩
 have e1:aQ w (ShS Vb Vf ys) (bxs s.1) Vb:=xS h1 (fun _ h=>h.elim) fun b hb=>.inl hb
 have e2:aQ w (ShS Vb Vf ys) (V.D.arr 4 (s.2.1.map fm)) Vf:=aI (fun b hb=>.inr hb) (fun _ _=>rfl) h2.rep;simp only [RepC,aC,aP];exact⟨⟨[_],[_,_,_],rfl,e1,[_],[_,_],rfl,e2,[_],[_],rfl,⟨rfl,rfl⟩,[_],[],rfl,⟨rfl,rfl⟩,rfl⟩,rfl⟩
theorem eG {w:World} {F:Nat→Prop} {s:Sp} {v:Value} (h:aQ w F (sp s) v):∃A n c A' n' c',v = .agg #[.slice A n c,.slice A' n' c',.int .i64 s.2.2.1,.int .i64 s.2.2.2]∧aQ w F (bxs s.1) (.slice A n c)∧aQ w F (V.D.arr 4 (s.2.1.map fm)) (.slice A' n' c'):=by
 obtain⟨vs,rfl,h⟩:=h;simp only [RepC,aC,aP] at h;obtain⟨⟨v1,v2,rfl,h1,v3,v4,rfl,h2,v5,v6,rfl,⟨rfl,_⟩,v7,v8,rfl,⟨rfl,_⟩,rfl⟩,_⟩:=h;have h1':=h1;have h2':=h2;obtain⟨A,c,_,rfl,_⟩:=h1;obtain⟨A',c',_,rfl,_⟩:=h2;exact⟨A,_,c,A',_,c',rfl,by simp only [aQ,RepC];exact h1',by simp only [aQ,RepC];exact h2'⟩
theorem yd {f:Nat} {z:Nat} {ff:List D→Option Out} {d:D} (he:∀args w,(callFunc f args).run Try.prog w = .ok (.enter f args) w) (hm:aH gl0 Try.prog f {pm:=[.dat 2],rm:=[.own z 0 false],f:=ff}) (hd:ff [d]=some (.ret [d] [])) (hbad:d ≠ .bad) {w:World} {F:Nat→Prop} {y:Value} (hr:aQ w F d y) (hF:∀b,F b→b<w.heap.size) :
  Calls Try.prog f #[y] w fun e w'=>∃A n c,e = .returned (.slice A n c)∧bf w' (fun _=>False) (aA (.slice A n c)) z d (.slice A n c)∧(∀b,aA (.slice A n c) b→w.heap.size≤b∧b<w'.heap.size)∧Below w.heap.size w w':=by
 refine(cE (ow:=fun _=>none) (F:=F) (ds:=[d]) (rs:=[d]) (us:=[]) (args:=#[y]) he hm hd eP
  (show ct w _ _ (.dat 2) d y∧True from⟨.inr hr,trivial⟩) (fun b hb=>⟨hF b hb,rfl⟩) (fun b i h=>by cases h)).mono ?_
 rintro e w' ⟨v,rfl,F',R,vs,rfl,hp⟩;have hl:=hp.len;obtain⟨u,rfl⟩:=List.length_eq_one_iff.1 (hl.trans rfl);have h0:=hp.res 0;rcases h0 with h0 | h0
 ·exact absurd h0 hbad
 obtain⟨m,e1,h2,h3⟩:=h0;have hB:Below w.heap.size w w':=⟨hp.os,hp.tape,hp.output,hp.size,fun b hb=>hp.keep b hb rfl⟩
 rcases h3 with ⟨h3,h30⟩ | ⟨g,o,c,us,cs,e,h4,h5,h6,h7,h8,h9,_,h11⟩
 ·have h3':u = .slice none 0 0:=h3
  subst h3';exact⟨_,_,_,rfl,⟨m,e1,h2,.inl ⟨rfl,h30⟩⟩,(fun b hb=>by cases hb),hB⟩
 ·have h4':u = .slice (some ⟨g,o,none⟩) m.length c:=h4
  subst h4';exact⟨_,_,_,rfl,⟨m,e1,h2,.inr ⟨g,o,c,us,cs,e,rfl,h5,h6,h7,aX (fun b hb=>hb.elim) (fun b hb=>hb.elim) _ _ h8,h9,rfl⟩⟩,fun b hb=>by
   have hb':g=b:=HG hb;subst hb';exact⟨h11,(HS.1 h6).1⟩,hB⟩
theorem zW (l:List Bx) (h:l.length≤1048576) {w:World} {F:Nat→Prop} {y:Value} (hr:aQ w F (bxs l) y) (hF:∀b,F b→b<w.heap.size) :
  Calls Try.prog 42 #[y] w fun e w'=>∃A n c,e = .returned (.slice A n c)∧bf w' (fun _=>False) (aA (.slice A n c)) 4 (bxs l) (.slice A n c)∧(∀b,aA (.slice A n c) b→w.heap.size≤b∧b<w'.heap.size)∧Below w.heap.size w w' :=
 yd (HM Try.func42 (by kernel_rfl) rfl) uP (uW l h) (by simp) hr hF
set_option maxHeartbeats 4000000 in
set_option maxRecDepth 1000000 in
theorem fM (s:Sp) (hs:cK s) (v0:Value) (w:World) (F:Nat→Prop) (hr:aQ w F (sp s) v0) (hF:∀b,F b→b<w.heap.size) :
  Calls Try.prog 10 #[v0] w fun e w'=>∃v Vb g cap ys,e = .returned v∧ShopAt w' w.heap.size v Vb (.slice (some ⟨g,0,none⟩) s.2.1.length cap) ys s∧Below w.heap.size w w':=by
 obtain⟨A,n,c,A',n',c',rfl,hb,hf⟩:=eG hr
 go_enter Try.func10,Try.ntmps10
 have hb3:∀a b c,Below w.heap.size w (((w.alloc a).alloc b).alloc c):=fun a b c=>(((IC _ w).alloc (HC _) _).alloc (by simp) _).alloc (by simp;omega) _
 have hc1:=fun(a b c:Obj)=>zW s.1 hs.1.1 (w:=((w.alloc a).alloc b).alloc c) (F:=F) (aI (fun _ h=>h) (fun i hi=>(hb3 a b c).block i (hF i hi)) hb) (fun i hi=>Im (hF i hi) (hb3 a b c).size)
 go_wp2_with (go_at_call 42;refine(hc1 _ _ _).mono ?_)
 rintro e w4 ⟨bA,bn,bc,rfl,hv,hvb,b4⟩;have H1:w4.heap[w.heap.size]?=some (.cells #[.slice A n c,.slice A' n' c',.int .i64 s.2.2.1,.int .i64 s.2.2.2] 25 (0,0)):=(b4.block _ (by simp;omega)).trans (ah _ (ah _ (ac _ rfl)));have H2:w4.heap[w.heap.size+1]?=some (.cells #[.slice none 0 0,.slice none 0 0,.int .i64 0,.int .i64 0] 33 (0,0)):=(b4.block _ (by simp)).trans (ah _ (ac _ (by simp)));have H3:w4.heap[w.heap.size+1+1]?=some (.cells #[.slice none 0 0,.slice none 0 0,.int .i64 0,.int .i64 0] 33 (0,0)):=(b4.block _ (by simp)).trans (ac _ (by simp));have hB4:Below w.heap.size w w4:=(hb3 _ _ _).trans (b4.mono (hb3 _ _ _).size);have hvb4:∀b,aA (.slice bA bn bc) b→w.heap.size+1+1<b∧b<w4.heap.size:=fun b hb=>by
  have:=hvb b hb;simp at this;omega
 have hlt4:w.heap.size+1+1<w4.heap.size:=by
  have:=b4.size;simp at this;omega
 clear hc1 hvb b4 hb3;have f30:=HA H3 0;have c30:=HB H3 0;have H3':=heap_setCell_same _ _ 0 _ _ (.slice bA bn bc) H3;have H1':(w4.setCell ⟨w.heap.size+1+1,0,none⟩ (.slice bA bn bc)).heap[w.heap.size]?=some (.cells #[.slice A n c,.slice A' n' c',.int .i64 s.2.2.1,.int .i64 s.2.2.2] 25 (0,0)):=(heap_setCell_other _ _ _ _ (by simp;omega)).trans H1;have H2':(w4.setCell ⟨w.heap.size+1+1,0,none⟩ (.slice bA bn bc)).heap[w.heap.size+1]?=some (.cells #[.slice none 0 0,.slice none 0 0,.int .i64 0,.int .i64 0] 33 (0,0)):=(heap_setCell_other _ _ _ _ (by simp)).trans H2;have c11:=HB H1' 1;simp only [Ic,HW,HX] at c30 c11;have hB4':Below w.heap.size w (w4.setCell ⟨w.heap.size+1+1,0,none⟩ (.slice bA bn bc)):=hB4.setCell (by simp;omega) _;have hc2:=vm s.2.1 hs.2.1 hs.2.2 (.slice A' n' c') (w4.setCell ⟨w.heap.size+1+1,0,none⟩ (.slice bA bn bc)) F (aI (fun _ h=>h) (fun i hi=>hB4'.block i (hF i hi)) hf) (fun i hi=>Im (hF i hi) hB4'.size)
 go_wp2_with (go_at_call 43;refine hc2.mono ?_)
 rintro e w5 ⟨g,cap,ys,rfl,hF5,b5⟩;have hv5:=aJ (w':=w5) hv fun b hb=>by
  have h1:=hvb4 b hb;rw [b5.block b (by simp [HQ];omega),heap_setCell_other _ _ _ _ (by simp;omega)]
 have hsz:(w4.setCell ⟨w.heap.size+1+1,0,none⟩ (.slice bA bn bc)).heap.size=w4.heap.size:=by simp [HQ]
 rw [hsz] at hF5 b5;have hB5:Below w.heap.size w w5:=hB4'.trans (b5.mono (by omega));have K1:=(b5.block _ (by omega)).trans H1';have K2:=(b5.block _ (by omega)).trans H2';have K3:=(b5.block _ (by omega)).trans H3';have hF5lt:=hF5.lt;have hs5:=b5.size;rw [hsz] at hs5;clear hc2 H1 H2 H3 H1' H2' H3' hB4 hB4' hv f30 c30 c11 b5 hsz;simp only [IA,Ir] at K3;have c12:=HB K1 2;have c13:=HB K1 3;have c31:=HB K3 1;have c32:=HB K3 2;have c33:=HB K3 3;have f31:=HA K3 1;have f32:=HA K3 2;have f33:=HA K3 3;simp only [Ic,HW,HX] at c12 c13 c31 c32 c33;have H7:(((w5.setCell ⟨w.heap.size+1+1,1,none⟩ (.slice (some ⟨g,0,none⟩) s.2.1.length cap)).setCell ⟨w.heap.size+1+1,2,none⟩ (.int .i64 s.2.2.1)).setCell ⟨w.heap.size+1+1,3,none⟩ (.int .i64 s.2.2.2)).heap[w.heap.size+1+1]?=some (.cells #[.slice bA bn bc,.slice (some ⟨g,0,none⟩) s.2.1.length cap,.int .i64 s.2.2.1,.int .i64 s.2.2.2] 33 (0,0)):=by
  rw [heap_setCell_same _ _ _ _ _ _ (heap_setCell_same _ _ _ _ _ _ (heap_setCell_same _ _ _ _ _ _ K3))];rfl
 have H72:(((w5.setCell ⟨w.heap.size+1+1,1,none⟩ (.slice (some ⟨g,0,none⟩) s.2.1.length cap)).setCell ⟨w.heap.size+1+1,2,none⟩ (.int .i64 s.2.2.1)).setCell ⟨w.heap.size+1+1,3,none⟩ (.int .i64 s.2.2.2)).heap[w.heap.size+1]?=some (.cells #[.slice none 0 0,.slice none 0 0,.int .i64 0,.int .i64 0] 33 (0,0)):=by
  rw [heap_setCell_other _ _ _ _ (by simp),heap_setCell_other _ _ _ _ (by simp),heap_setCell_other _ _ _ _ (by simp),K2]
 have B7:Below w.heap.size w (((w5.setCell ⟨w.heap.size+1+1,1,none⟩ (.slice (some ⟨g,0,none⟩) s.2.1.length cap)).setCell ⟨w.heap.size+1+1,2,none⟩ (.int .i64 s.2.2.1)).setCell ⟨w.heap.size+1+1,3,none⟩ (.int .i64 s.2.2.2)) :=
  ((hB5.setCell (by simp;omega) _).setCell (by simp;omega) _).setCell (by simp;omega) _
 have S5:ShopAt w5 w.heap.size (.agg #[.slice bA bn bc,.slice (some ⟨g,0,none⟩) s.2.1.length cap,.int .i64 s.2.2.1,.int .i64 s.2.2.2]) (.slice bA bn bc) (.slice (some ⟨g,0,none⟩) s.2.1.length cap) ys s :=
  ⟨rfl,hv5,fun b hb=>by have:=(hvb4 b hb).1;omega,hF5.base (by omega),fun b hb h=>by
   have h1:=(hvb4 b hb).2;have h2:=(hF5lt b h).1;omega⟩
 have L5:∀b,ShS (.slice bA bn bc) (.slice (some ⟨g,0,none⟩) s.2.1.length cap) ys b→w.heap.size+1+1<b:=fun b hb=>by
  rcases hb with hb | hb
  ·exact(hvb4 b hb).1
  ·have:=(hF5lt b hb).1
   omega
 have S7:ShopAt (((w5.setCell ⟨w.heap.size+1+1,1,none⟩ (.slice (some ⟨g,0,none⟩) s.2.1.length cap)).setCell ⟨w.heap.size+1+1,2,none⟩ (.int .i64 s.2.2.1)).setCell ⟨w.heap.size+1+1,3,none⟩ (.int .i64 s.2.2.2)) w.heap.size (.agg #[.slice bA bn bc,.slice (some ⟨g,0,none⟩) s.2.1.length cap,.int .i64 s.2.2.1,.int .i64 s.2.2.2]) (.slice bA bn bc) (.slice (some ⟨g,0,none⟩) s.2.1.length cap) ys s:=S5.keep fun b hb=>by
  have:=L5 b hb;rw [heap_setCell_other _ _ _ _ (by simp;omega),heap_setCell_other _ _ _ _ (by simp;omega),heap_setCell_other _ _ _ _ (by simp;omega)]
 have d0:=HB H7 0;have d1:=HB H7 1;have d2:=HB H7 2;have d3:=HB H7 3;have e0:=HB H72 0;have e1:=HB H72 1;have e2:=HB H72 2;have e3:=HB H72 3;have g0:=HA H72 0;have g1:=HA H72 1;have g2:=HA H72 2;have g3:=HA H72 3;simp only [Ic,HW,HX] at d0 d1 d2 d3 e0 e1 e2 e3;clear hF5lt hv5 hvb4 hF5
 go_wp2
 generalize ((w5.setCell ⟨w.heap.size+1+1,1,none⟩ (.slice (some ⟨g,0,none⟩) s.2.1.length cap)).setCell ⟨w.heap.size+1+1,2,none⟩ (.int .i64 s.2.2.1)).setCell ⟨w.heap.size+1+1,3,none⟩ (.int .i64 s.2.2.2)=W7 at *;have H11:((((W7.setCell ⟨w.heap.size+1,0,none⟩ (.slice bA bn bc)).setCell ⟨w.heap.size+1,1,none⟩ (.slice (some ⟨g,0,none⟩) s.2.1.length cap)).setCell ⟨w.heap.size+1,2,none⟩ (.int .i64 s.2.2.1)).setCell ⟨w.heap.size+1,3,none⟩ (.int .i64 s.2.2.2)).heap[w.heap.size+1]?=some (.cells #[.slice bA bn bc,.slice (some ⟨g,0,none⟩) s.2.1.length cap,.int .i64 s.2.2.1,.int .i64 s.2.2.2] 33 (0,0)):=by
  rw [heap_setCell_same _ _ _ _ _ _ (heap_setCell_same _ _ _ _ _ _ (heap_setCell_same _ _ _ _ _ _ (heap_setCell_same _ _ _ _ _ _ H72)))];rfl
 have d0:=HB H11 0;have d1:=HB H11 1;have d2:=HB H11 2;have d3:=HB H11 3;simp only [Ic,HW,HX] at d0 d1 d2 d3;refine bodyPost_ret (by simp [results,Try.results10,go_sem,d0,d1,d2,d3];try rfl) rfl ?_
 refine⟨_,_,g,cap,ys,rfl,S7.keep fun b hb=>?_,(((B7.setCell (by simp) _).setCell (by simp) _).setCell (by simp) _).setCell (by simp) _⟩
 have:=L5 b hb;rw [heap_setCell_other _ _ _ _ (by simp;omega),heap_setCell_other _ _ _ _ (by simp;omega),heap_setCell_other _ _ _ _ (by simp;omega),heap_setCell_other _ _ _ _ (by simp;omega)]
set_option maxRecDepth 100000
theorem fi {w:World} (o:Obj) {b:Nat} (h:b<w.heap.size):(w.alloc o).heap[b]?=w.heap[b]?:=(World.grownBy_alloc w o none).block b h (by simp)
def sI:List Fm→Int
 | []=>0
 | x::l=>x.2.1.length+sI l
theorem xX:∀l,0≤sI l
 | []=>Int.le_refl _
 | x::l=>by have:=xX l;simp only [sI];omega
theorem we:∀l:List Fm,bZ l=3*l.length+sI l
 | []=>rfl
 | x::l=>by have:=we l;simp only [bZ,sI,List.length_cons];omega
theorem Dl {body:List D→Option Out} {K:Out→Option Out} {R:Option Out→Prop} (l:List Fm) (st:Nat→Int→List D)
  (hs:∀(i:Nat) (hi:i<l.length) (m:Int),0≤m→m≤1048576→body (st i m)=some (.ret [I (-1)] [])∨∃m',body (st i m)=some (.nrm (st (i+1) m'))∧0≤m'∧m'+l[i].2.1.length≤m)
  (he:∀m,body (st l.length m)=some (.ext 0 [I m])) (m0:Int) (h0:0≤m0) (h1:m0≤1048576) {s0:List D} (h:s0=st 0 m0)
  (hk1:R (K (.ret [I (-1)] []))) (hk2:∀m,0≤m→m+sI l≤m0→R (K (.ext 0 [I m]))):R ((bh body s0).bind K):=by
 have key:∀(n i:Nat) (m:Int),i+n=l.length→0≤m→m≤m0→∃o,Runs body (st i m) o∧(o = .ret [I (-1)] []∨∃m',o = .ext 0 [I m']∧0≤m'∧m'+sI (l.drop i)≤m):=by
  intro n;induction n with
  | zero =>
   intro i m hi g0 g1;have:i=l.length:=by omega
   subst this;exact⟨_,Runs.one (he m) rfl,.inr ⟨m,rfl,g0,by simp [sI]⟩⟩
  | succ n ih =>
   intro i m hi g0 g1;have hlt:i<l.length:=by omega
   rcases hs i hlt m g0 (by omega) with e | ⟨m',e,k0,k1⟩
   ·exact⟨_,Runs.one e rfl,.inl rfl⟩
   ·obtain⟨o,r1,r2⟩:=ih (i+1) m' (by omega) k0 (by omega)
    refine⟨o,.nrm e r1,r2.imp_right ?_⟩
    rintro⟨m2,rfl,q0,q1⟩;refine⟨m2,rfl,q0,?_⟩
    rw [Iq hlt,sI];omega
 obtain⟨o,r1,r2⟩:=key l.length 0 m0 (by omega) h0 (Int.le_refl _);rw [h,r1.loop];rcases r2 with rfl | ⟨m,rfl,g0,g1⟩
 ·exact hk1
 ·exact hk2 m g0 g1
theorem Al (l:List ByteArray) (n:Int) (h:l.length≤9223372036854775807∧∀x∈l,x.size≤9223372036854775807) (h0:0≤n) (h1:n≤1048576):∃m,dB [txs l,I n]=some (.ret [I m] [])∧m≤n∧(0≤m→m+l.length≤n):=by
 have hl:=h.1;rw [kl];have hw:HD.wrap (n - l.length)=n - l.length:=ao (by omega) (by omega);by_cases hn:n - (l.length:Int)<0
 ·exact⟨-1,by simp -implicitDefEqProofs [hw,hn],by omega,by omega⟩
 simp -implicitDefEqProofs [hw,hn];refine rU (R:=fun X=>∃m,X=some (.ret [I m] [])∧m≤n∧(0≤m→m+l.length≤n)) l (fun i m=>[txs l,I m,I i]) (fun _=>True) (fun i hi m g0 g1=>?_) (fun m=>?_) (n - l.length) (by omega) (by omega) rfl ?_ (fun m g0 g1 gP=>?_)
 ·have hwi:HD.wrap ((i:Int)+1)=(i:Int)+1:=ao (by omega) (by omega)
  have hs:=h.2 l[i] (HO hi);have hwm:HD.wrap (m - l[i].size)=m - l[i].size:=ao (by omega) (by omega);by_cases hm:m - (l[i].size:Int)<0
  ·exact .inl (by simp -implicitDefEqProofs [hi,hwm,hm])
  ·exact .inr ⟨m - l[i].size,by simp -implicitDefEqProofs [hi,hwm,hm,hwi],by omega,by omega,trivial⟩
 ·simp -implicitDefEqProofs
 ·exact⟨-1,by simp -implicitDefEqProofs,by omega,by omega⟩
 ·exact⟨m,by simp -implicitDefEqProofs,by omega,fun _=>by omega⟩
theorem DE (x:Fm) (n:Int) (h:x.2.1.length≤9223372036854775807∧∀c∈x.2.1,c.size≤9223372036854775807) (h0:0≤n) (h1:n≤1048576):∃m,eE [fm x,I n]=some (.ret [I m] [])∧m≤n∧(0≤m→m+x.2.1.length≤n):=by
 rw [lS];obtain⟨m,e,k1,k2⟩:=Al x.2.1 n h h0 h1;by_cases hm:m<0
 ·exact⟨-1,by simp -implicitDefEqProofs [e,hm],by omega,by omega⟩
 ·exact⟨m,by simp -implicitDefEqProofs [e,hm],k1,k2⟩
theorem Ca (l:List Fm) (n:Int) (h:l.length≤9223372036854775807∧∀x∈l,x.2.1.length≤9223372036854775807∧∀c∈x.2.1,c.size≤9223372036854775807) (h0:0≤n) (h1:n≤1048576):∃m,dU [fms l,I n]=some (.ret [I m] [])∧m≤n∧(0≤m→m+l.length+sI l≤n):=by
 have hl:=h.1;rw [kZ];have hw:HD.wrap (n - l.length)=n - l.length:=ao (by omega) (by omega);by_cases hn:n - (l.length:Int)<0
 ·exact⟨-1,by simp -implicitDefEqProofs [hw,hn],by omega,by omega⟩
 simp -implicitDefEqProofs [hw,hn];refine Dl (R:=fun X=>∃m,X=some (.ret [I m] [])∧m≤n∧(0≤m→m+l.length+sI l≤n)) l (fun i m=>[fms l,I m,I i]) (fun i hi m g0 g1=>?_) (fun m=>?_) (n - l.length) (by omega) (by omega) rfl ?_ (fun m g0 g1=>?_)
 ·have hwi:HD.wrap ((i:Int)+1)=(i:Int)+1:=ao (by omega) (by omega)
  obtain⟨m',e,k1,k2⟩:=DE l[i] m (h.2 _ (HO hi)) g0 g1;by_cases hm:m'<0
  ·exact .inl (by simp -implicitDefEqProofs [hi,e,hm])
  ·exact .inr ⟨m',by simp -implicitDefEqProofs [hi,e,hm,hwi],by omega,k2 (by omega)⟩
 ·simp -implicitDefEqProofs
 ·exact⟨-1,by simp -implicitDefEqProofs,by omega,by omega⟩
 ·have:=xX l
  exact⟨m,by simp -implicitDefEqProofs,by omega,fun _=>by omega⟩
theorem Fa (s:Sp) (h:Cg s):∃m,fb [sp s,I 1048576]=some (.ret [I m] [])∧m≤1048576∧(0≤m→cK s∧bZ s.2.1≤3145728):=by
 obtain⟨m0,e0,k0,k0'⟩:=vC s h;refine⟨m0,e0,k0,fun hm0=>⟨k0' hm0,?_⟩⟩
 rw [mP] at e0;obtain⟨m1,e1,k1,k2⟩:=mW s.1 1048576 h.1 (by omega) (by omega);by_cases h1:m1<0
 ·simp -implicitDefEqProofs [e1,h1] at e0
  omega
 obtain⟨m2,e2,g1,g2⟩:=Ca s.2.1 m1 h.2 (by omega) k1;by_cases h2:m2<0
 ·simp -implicitDefEqProofs [e1,h1,e2,h2] at e0
  omega
 ·have:=g2 (by omega)
  rw [we];have:=xX s.2.1;omega
def mkS (k:Int) (s:Sp):Sp:=(xn k s.1.length,mkF (k+4*s.1.length) s.2.1,s.2.2.1,s.2.2.2)
set_option maxRecDepth 100000
theorem Bf {vs:List Value} (h:vs.length=2):∃a b,vs=[a,b]:=match vs,h with
 | [a,b],_=>⟨a,b,rfl⟩
theorem AN {f:Nat} {ff:List D→Option Out} {a a':D} {b:Value} (he:∀args w,(callFunc f args).run Try.prog w = .ok (.enter f args) w) (hm:aH gl0 Try.prog f {pm:=[.dat 2,.dat 2],rm:=[.dat 0],f:=ff}) (hd:ff [a,a']=some (.ret [.v b] [])) {w:World} {F F':Nat→Prop} {y y':Value} (hr:aQ w F a y) (hF:∀b,F b→b<w.heap.size) (hr':aQ w F' a' y') (hF':∀b,F' b→b<w.heap.size) :
  Calls Try.prog f #[y,y'] w fun e w'=>e = .returned b∧Below w.heap.size w w' :=
 fO he hm ff rfl hd rfl eP
  (show ct w (fun b=>F b∨F' b) _ (.dat 2) a y∧ct w _ _ (.dat 2) a' y'∧True from⟨.inr (aI (fun _ h=>.inl h) (fun _ _=>rfl) hr),.inr (aI (fun _ h=>.inr h) (fun _ _=>rfl) hr'),trivial⟩) (fun b hb=>hb.elim (hF b) (hF' b))
theorem kT {f:Nat} {ff:List D→Option Out} {a:D} {k:Int} {b:Value} (he:∀args w,(callFunc f args).run Try.prog w = .ok (.enter f args) w) (hm:aH gl0 Try.prog f {pm:=[.dat 2,.dat 0],rm:=[.dat 0],f:=ff}) (hd:ff [a,I k]=some (.ret [.v b] [])) {w:World} {F:Nat→Prop} {y:Value} (hr:aQ w F a y) (hF:∀b,F b→b<w.heap.size) :
  Calls Try.prog f #[y,.int .i64 k] w fun e w'=>e = .returned b∧Below w.heap.size w w' :=
 fO he hm ff rfl hd rfl eP
  (show ct w F _ (.dat 2) a y∧ct w _ _ (.dat 0) (I k) (.int .i64 k)∧True from⟨.inr hr,.inr (dL.2 ⟨rfl,rfl⟩),trivial⟩) hF
theorem ze (s:Sp) (m:Int) (hm:fb [sp s,I 1048576]=some (.ret [I m] [])) {w:World} {F:Nat→Prop} {y:Value} (hr:aQ w F (sp s) y) (hF:∀b,F b→b<w.heap.size) :
  Calls Try.prog 8 #[y,.int .i64 1048576] w fun e w'=>e = .returned (.int .i64 m)∧Below w.heap.size w w' :=
 kT (HM Try.func8 (by kernel_rfl) rfl) uz hm hr hF
theorem ju (s:Sp) (h:cK s) {w:World} {F F':Nat→Prop} {y y':Value} (hr:aQ w F (sp s) y) (hF:∀b,F b→b<w.heap.size) (hr':aQ w F' (sp s) y') (hF':∀b,F' b→b<w.heap.size) :
  Calls Try.prog 13 #[y,y'] w fun e w'=>e = .returned (.bool true)∧Below w.heap.size w w' :=
 AN (HM Try.func13 (by kernel_rfl) rfl) vr (vy s h) hr hF hr' hF'
theorem dW {w:World} {z:Nat} {d:D} {y:Value} (h:bf w (fun _=>False) (aA y) z d y):aQ w (aA y) d y:=xS h (fun _ h=>h.elim) fun _ h=>h
set_option maxRecDepth 100000
theorem bf.below {w w':World} {z:Nat} {d:D} {y:Value} (h:bf w (fun _=>False) (aA y) z d y) (hB:Below w.heap.size w w'):bf w' (fun _=>False) (aA y) z d y:=aJ h fun b hb=>hB.block b (cd h b hb)
theorem Below.some {w w':World} {b:Nat} {o:Obj} (hB:Below w.heap.size w w') (h:w.heap[b]?=some o):w'.heap[b]?=some o:=(hB.block b (HS.1 h).1).trans h
theorem aB {w:World} {b:Nat} {o:Obj} (h:w.heap[b]?=some o):b<w.heap.size:=(HS.1 h).1
theorem be (w:World) (o:Obj):Below w.heap.size w (w.alloc o):=(IC _ w).alloc (HC _) _
theorem ab (w:World):Below w.heap.size w w.drew:=⟨rfl,rfl,rfl,HC _,fun _ _=>rfl⟩
theorem bm {w w1 w2:World} {B:Nat} (h:Below B w w1) (k:Below w1.heap.size w1 w2) (hb:B≤w1.heap.size):Below B w w2:=h.trans (k.mono hb)
theorem KeptX.some {S:Nat→Prop} {w w':World} {b:Nat} {o:Obj} (hX:KeptX S w w') (h:w.heap[b]?=some o) (hS:¬S b):w'.heap[b]?=some o:=(hX.block b (aB h) hS).trans h
theorem bf.keptX {S:Nat→Prop} {w w':World} {z:Nat} {d:D} {y:Value} (h:bf w (fun _=>False) (aA y) z d y) (hX:KeptX S w w') (hS:∀b,aA y b→¬S b):bf w' (fun _=>False) (aA y) z d y:=aJ h fun b hb=>hX.block b (cd h b hb) (hS b hb)
theorem aa {w:World} {b:Nat} {x0 x1 x2 x3:Value} {t:TypeId} (h:w.heap[b]?=some (.cells #[x0,x1,x2,x3] t (0,0))):w.cell? ⟨b,0,none⟩=some x0∧w.cell? ⟨b,1,none⟩=some x1∧w.cell? ⟨b,2,none⟩=some x2∧w.cell? ⟨b,3,none⟩=some x3:=by
 refine⟨?_,?_,?_,?_⟩<;>rw [HB h]<;>rfl
end Go.Proofs.Ytkcojipciiakdaa

namespace Go.Proofs.Ytkcojipciiakdaa
open Go.V
set_option maxRecDepth 100000
@[reducible] def GU:TI:={agg:=true,n:=4,zero:=[.v (.int .i64 0),.v (.int .i64 0),.v (.string ⟨#[]⟩),.v (.int .i64 0)],fs:=[(0,3),(1,3),(2,9),(3,3)],eq:=[1,1,3,1]}
@[reducible] def Ge:TI:={agg:=true,n:=4,zero:=[.v (.int .i64 0),.v (.int .i64 0),.v (.string ⟨#[]⟩),.v (.int .i64 0)],fs:=[(0,3),(1,3),(2,9),(3,3)],eq:=[1,1,3,1]}
@[reducible] def zj:TI:={n:=1,zero:=[.arr 2 []],elem:=135,ez:=2,eb:=24}
@[reducible] def yY:TI:={agg:=true,n:=2,zero:=[.v (.string ⟨#[]⟩),.v (.int .i64 0)],fs:=[(0,9),(1,3)],eq:=[3,1]}
@[reducible] def lA:Cx:={K:=[Yc,Yc,Y,.no,.no,.no,Yo 4 0,Y,Yo 4 0,.no,Y,Yc,Yc,Y,Y,Yo 4 0,Yo 4 0,Yc,Yo 4 0,Yc,Y,Y,Y,Yc,Y,.via 8,Yc,Y,Y,Yr 8,Yr 8,Y,Y,Y,Yr 8,Yr 8,Y,.via 8,Y,Y,Yo 4 0,Yo 4 0],T:=[(3,ty3),(9,ty9),(30,jO),(73,iU),(112,fg)],S:=[(66,gR),(100,ig),(113,kI)],H:=[(0,([0,2,8,19,20,21],[8]))],res:=[.tmp 6,.tmp 7],ios:=[],G:=gl0}
def eF:List D→Option Out:=bQ lA Try.f88
@[reducible] def iW:FS:={pm:=[Yc,Yc,Y],rm:=[Yo 4 0,Y],f:=eF}
theorem me:aH gl0 Try.prog 88 iW:=aS (c:=lA) (au jM (au ll (au oU aF))) Try.func88 rfl rfl (by kernel_rfl)
@[reducible] def lq:Cx:={K:=[Yc,Yc,.no,.no,Yo 4 0,Y,Yc,Yc,.tup [Yo 4 0,Y],Yo 4 0,Y],T:=[(30,jO)],S:=[(88,iW)],H:=[],res:=[.tmp 4,.tmp 5],ios:=[],G:=gl0}
def il:List D→Option Out:=bQ lq Try.f51
@[reducible] def rp:FS:={pm:=[Yc,Yc],rm:=[Yo 4 0,Y],f:=il}
theorem rg:aH gl0 Try.prog 51 rp:=aS (c:=lq) (au me aF) Try.func51 rfl rfl (by kernel_rfl)
@[reducible] def kb:Cx:={K:=[Yc,Yc,.no,.no,Yo 4 0,Y,Yc,Yc,.tup [Yo 4 0,Y],Yo 4 0,Y],T:=[(30,jO)],S:=[(88,iW)],H:=[],res:=[.tmp 4,.tmp 5],ios:=[],G:=gl0}
def gu:List D→Option Out:=bQ kb Try.f73
@[reducible] def qk:FS:={pm:=[Yc,Yc],rm:=[Yo 4 0,Y],f:=gu}
theorem qI:aH gl0 Try.prog 73 qk:=aS (c:=kb) (au me aF) Try.func73 rfl rfl (by kernel_rfl)
@[reducible] def jh:Cx:={K:=[Yc,Y,.no,.no,Y,Y,Y,Yc,Y,Y,Y,Y,Yc,Y,Yc,Yc,Y,Y,Y,Y,Y,Yc,Y,Yc,Yc,Yc,Y,Y,Y,Y,Yc,Y,Yc,Yc,Y,Y,Y,Y,Y,Y,Y,Yc,Y,Yc,Yc,Y,Y,Y,Y,Y,Y],T:=[(3,ty3),(4,ty4),(9,ty9),(31,yo),(73,iU),(75,tc)],S:=[(89,iX)],H:=[(0,([0,1,5],[1]))],res:=[.tmp 4],ios:=[],G:=gl0}
def ew:List D→Option Out:=bQ jh Try.f53
@[reducible] def jx:FS:={pm:=[Yc,Y],rm:=[Y],f:=ew}
theorem pH:aH gl0 Try.prog 53 jx:=aS (c:=jh) (au nU aF) Try.func53 rfl rfl (by kernel_rfl)
@[reducible] def lg:Cx:={K:=[Yc,Y,.box 4 2 false,.no,Y,Yr 2,Yc,Y,Y,Y,Y,Yr 2,Yc,Y,Y,Y,Y,Y],T:=[(3,ty3),(30,jO),(31,yo),(33,BT),(75,tc),(112,fg)],S:=[(52,lb),(53,jx)],H:=[],res:=[.tmp 4],ios:=[],G:=gl0}
def ij:List D→Option Out:=bQ lg Try.f19
@[reducible] def rk:FS:={pm:=[Yc,Y],rm:=[Y],f:=ij}
theorem ro:aH gl0 Try.prog 19 rk:=aS (c:=lg) (au rB (au pH aF)) Try.func19 rfl rfl (by kernel_rfl)
@[reducible] def nv:Cx:={K:=[Y,.no,Y,Y,Y],T:=[],S:=[(105,fY)],H:=[],res:=[.tmp 2],ios:=[],G:=gl0}
def gS:List D→Option Out:=bQ nv Try.f71
@[reducible] def nf:FS:={pm:=[Y],rm:=[Y],f:=gS}
theorem uV:aH gl0 Try.prog 71 nf:=aS (c:=nv) (au jn aF) Try.func71 rfl rfl (by kernel_rfl)
@[reducible] def jq:Cx:={K:=[Y,.box 4 0 false,Y,Yr 1,Y,Y,Y,Yr 1,Y,Y,Y,Yr 1,Y,Y,Y,Yr 1,Y,Y,Y,Y,Y,Yr 1,Y,Y,Y,Yr 1,Y,Y,Y,Y,Y,Y,Y,Y,Yr 1,Y,Y,Y,Yr 1,Y,Y,Y],T:=[(3,ty3),(9,ty9),(46,Ge)],S:=[(67,cA),(71,nf),(92,gC)],H:=[],res:=[.tmp 2],ios:=[],G:=gl0}
def es:List D→Option Out:=bQ jq Try.f55
@[reducible] def pJ:FS:={pm:=[Y],rm:=[Y],f:=es}
theorem oE:aH gl0 Try.prog 55 pJ:=aS (c:=jq) (au cM (au uV (au kq aF))) Try.func55 rfl rfl (by kernel_rfl)
@[reducible] def nC:Cx:={K:=[Y,.no,Y,Y,Y],T:=[],S:=[(107,gx)],H:=[],res:=[.tmp 2],ios:=[],G:=gl0}
def gL:List D→Option Out:=bQ nC Try.f74
@[reducible] def nA:FS:={pm:=[Y],rm:=[Y],f:=gL}
theorem uH:aH gl0 Try.prog 74 nA:=aS (c:=nC) (au kj aF) Try.func74 rfl rfl (by kernel_rfl)
@[reducible] def nw:Cx:={K:=[Y,.box 4 0 false,Y,Yr 1,Y,Y,Y,Yr 1,Y,Y,Y,Yr 1,Y,Y,Y,Yr 1,Y,Y,Y,Y,Y,Yr 1,Y,Y,Y,Yr 1,Y,Y,Y,Y,Y,Y,Y,Y,Yr 1,Y,Y,Y,Yr 1,Y,Y,Y],T:=[(3,ty3),(9,ty9),(46,Ge)],S:=[(74,nA),(80,eL)],H:=[],res:=[.tmp 2],ios:=[],G:=gl0}
def gQ:List D→Option Out:=bQ nw Try.f90
@[reducible] def uF:FS:={pm:=[Y],rm:=[Y],f:=gQ}
theorem vJ:aH gl0 Try.prog 90 uF:=aS (c:=nw) (au uH (au fK aF)) Try.func90 rfl rfl (by kernel_rfl)
@[reducible] def cY:Cx:={K:=[Y,Y,.no,.no,Y,Y,Y,Y,Y,Y,Y,Y,Y,Y,Y,Y,Y,Y],T:=[(3,ty3),(9,ty9)],S:=[],H:=[],res:=[.tmp 4],ios:=[],G:=gl0}
def bJ:List D→Option Out:=bQ cY Try.f121
@[reducible] def dg:FS:={pm:=[Y,Y],rm:=[Y],f:=bJ}
theorem gh:aH gl0 Try.prog 121 dg:=aS (c:=cY) aF Try.func121 rfl rfl (by kernel_rfl)
@[reducible] def ir:Cx:={K:=[Y,Y,.no,.no,Y,Y,Y,Y],T:=[],S:=[(121,dg)],H:=[],res:=[.tmp 4],ios:=[],G:=gl0}
def dv:List D→Option Out:=bQ ir Try.f118
@[reducible] def iq:FS:={pm:=[Y,Y],rm:=[Y],f:=dv}
theorem mI:aH gl0 Try.prog 118 iq:=aS (c:=ir) (au gh aF) Try.func118 rfl rfl (by kernel_rfl)
@[reducible] def lJ:Cx:={K:=[Yc,Y,.no,.no,Yo 1 0,Y,Yo 1 0,Y,Y,.box 2 0 false,Yo 1 0,Y,Y,Y,Yc,Y,Y,Y,Y,Yc,Y,Y,Yr 9,Y,Y,Y,Y,Y,Y,Yr 9,Y,Y,Yc,Y,Yc,Yc,Y,Y,Y,Y,Y,Y,Y,Y,Y,Yo 1 0,Yo 1 0,Y,Yb,Yo 1 0,Y,Yc,Y,Yc,Yc,Y,Y,Y,Yo 1 0],T:=[(3,ty3),(9,ty9),(27,FT),(125,zj),(135,yY)],S:=[(118,iq)],H:=[(0,([0,1,6],[6])),(2,([0,1,6,7,14,15,16],[0,1,6,7]))],res:=[.tmp 4,.tmp 5],ios:=[],G:=gl0}
def eD:List D→Option Out:=bQ lJ Try.f106
@[reducible] def ml:FS:={pm:=[Yc,Y],rm:=[Yo 1 0,Y],f:=eD}
theorem tR:aH gl0 Try.prog 106 ml:=aS (c:=lJ) (au mI aF) Try.func106 rfl rfl (by kernel_rfl)
@[reducible] def lD:Cx:={K:=[Yc,Y,.no,.no,Yo 1 0,Y,Yo 2 0,.no,.box 4 0 false,Yb,Y,Yo 1 0,.no,Y,Yo 2 0,Yc,Y,Y,Y,Yc,Y,Yo 2 0,Yr 8,Y,Y,Yb,Yo 2 0,Y,.tup [Yo 1 0,Y],.via 6,Y,.tup [Yo 1 0,Y],Yb,Y,Yo 1 0,Yb,Y,Y,Y,Yb,Y,Yo 1 0,.via 6,Y,Yr 6,Yr 6,Y,Yb,Yo 1 0,Y,Yo 1 0,Y],T:=[(3,ty3),(9,ty9),(27,FT),(30,jO),(73,iU),(112,fg),(125,zj),(135,yY)],S:=[(106,ml)],H:=[(0,([1,6,15,16,17],[1,6])),(2,([6,10,11,35,36,37],[10,11]))],res:=[.tmp 4,.tmp 5],ios:=[],G:=gl0}
def ja:List D→Option Out:=bQ lD Try.f72
@[reducible] def sv:FS:={pm:=[Yc,Y],rm:=[Yo 1 0,Y],f:=ja}
theorem rY:aH gl0 Try.prog 72 sv:=aS (c:=lD) (au tR aF) Try.func72 rfl rfl (by kernel_rfl)
@[reducible] def lC:Cx:={K:=[Y,Y,.no,.no,Y,Y,Y,Y,Y,Y],T:=[(3,ty3)],S:=[],H:=[],res:=[.tmp 4],ios:=[],G:=gl0}
def eJ:List D→Option Out:=bQ lC Try.f119
@[reducible] def mp:FS:={pm:=[Y,Y],rm:=[Y],f:=eJ}
theorem tu:aH gl0 Try.prog 119 mp:=aS (c:=lC) aF Try.func119 rfl rfl (by kernel_rfl)
@[reducible] def np:Cx:={K:=[Yc,Y,.no,.no,Y,Y,.box 2 0 false,Yc,Y,Y,Y,Y,Yc,Y,Yr 6,Y,Y,Y,Y,Y],T:=[(3,ty3),(9,ty9),(125,zj),(135,yY)],S:=[],H:=[(0,([1,7,8,9],[]))],res:=[.tmp 4],ios:=[],G:=gl0}
def fj:List D→Option Out:=bQ np Try.f120
@[reducible] def nh:FS:={pm:=[Yc,Y],rm:=[Y],f:=fj}
theorem vb:aH gl0 Try.prog 120 nh:=aS (c:=np) aF Try.func120 rfl rfl (by kernel_rfl)
@[reducible] def oV:Cx:={K:=[Yc,Y,.no,.no,Yo 1 0,Y,Yo 1 0,Y,Y,Y,Y,Y,Y,Y,Y,Y,Y,Y,Y,Y,Y,Y,Y,Y,Y,Y,Y,Yc,Y,Y,Y,Y,Y,Y,Y,Y,Y,Yo 1 0,Y,Yb,Yo 1 0,Y,Yc,Y,Yc,Yc,Y,Y,Y,Yo 1 0],T:=[(3,ty3),(9,ty9),(27,FT),(125,zj),(135,yY)],S:=[(119,mp),(120,nh)],H:=[(0,([0,1,6,7],[6])),(2,([0,1,6,7,8,9],[0,1,6,7,8]))],res:=[.tmp 4,.tmp 5],ios:=[],G:=gl0}
def iF:List D→Option Out:=bQ oV Try.f108
@[reducible] def oC:FS:={pm:=[Yc,Y],rm:=[Yo 1 0,Y],f:=iF}
theorem xr:aH gl0 Try.prog 108 oC:=aS (c:=oV) (au tu (au vb aF)) Try.func108 rfl rfl (by kernel_rfl)
@[reducible] def lU:Cx:={K:=[Yc,Y,.no,.no,Yo 1 0,Y,Yo 2 0,.no,.box 4 0 false,Yb,Y,Yo 1 0,.no,Y,Yc,Y,Y,Y,Yc,Y,Yo 2 0,Yr 8,Y,Y,Yb,Yo 2 0,Y,.tup [Yo 1 0,Y],.via 6,Y,.tup [Yo 1 0,Y],Yb,Y,Y,Y,Yb,Y,Y,Y,Yb,Y,Yo 1 0,.via 6,Y,Yr 6,Yr 6,Y,Yb,Yo 1 0,Y,Yo 1 0],T:=[(3,ty3),(9,ty9),(27,FT),(30,jO),(73,iU),(112,fg),(125,zj),(135,yY)],S:=[(108,oC)],H:=[(0,([1,6,14,15,16],[1,6])),(2,([6,11,35,36,37],[11]))],res:=[.tmp 4,.tmp 5],ios:=[],G:=gl0}
def iS:List D→Option Out:=bQ lU Try.f75
@[reducible] def sV:FS:={pm:=[Yc,Y],rm:=[Yo 1 0,Y],f:=iS}
theorem tn:aH gl0 Try.prog 75 sV:=aS (c:=lU) (au xr aF) Try.func75 rfl rfl (by kernel_rfl)
@[reducible] def nb:Cx:={K:=[Yc,Y,.box 4 2 false,.no,Y,Y,.box 4 2 false,Yr 2,Yc,Y,Y,Y,Y,Yc,Yc,Yr 6,Y,Y,Y,Y,Y],T:=[(3,ty3),(4,ty4),(30,jO),(31,yo),(33,BT),(73,iU),(75,tc)],S:=[],H:=[(0,([1,8,9,10],[]))],res:=[.tmp 4],ios:=[],G:=gl0}
def gW:List D→Option Out:=bQ nb Try.f115
@[reducible] def vj:FS:={pm:=[Yc,Y],rm:=[Y],f:=gW}
theorem nD:aH gl0 Try.prog 115 vj:=aS (c:=nb) aF Try.func115 rfl rfl (by kernel_rfl)
@[reducible] def iw:Cx:={K:=[Yc,Y,.box 4 2 false,.no,Y,Y,Y,Y,Yr 2,Yc,Y,Y,Y,Yr 2,Yc,Y,Yc,Yc,Y,Y,Y,Y,Y,Y,Y,Y,Yr 2,Yc,Y,Y,Y,Yr 2,Yc,Y,Yc,Yc,Y,Y,Y,Y],T:=[(3,ty3),(4,ty4),(30,jO),(31,yo),(33,BT),(73,iU),(75,tc)],S:=[],H:=[(0,([1,2,6],[1,2,6]))],res:=[.tmp 4,.tmp 5],ios:=[],G:=gl0}
def dw:List D→Option Out:=bQ iw Try.f94
@[reducible] def mO:FS:={pm:=[Yc,Y],rm:=[Y,Y],f:=dw}
theorem mN:aH gl0 Try.prog 94 mO:=aS (c:=iw) aF Try.func94 rfl rfl (by kernel_rfl)
@[reducible] def jf:Cx:={K:=[Y,.box 4 0 false,.box 4 0 false,.box 4 0 false,Yr 1,Y,Yr 3,Yr 1,Y,Yr 3,Yr 1,Y,Yr 3,Yr 1,Y,Yr 3,Y],T:=[(3,ty3),(9,ty9),(43,GU),(46,Ge)],S:=[],H:=[],res:=[.cell 2 46],ios:=[],G:=gl0}
def fS:List D→Option Out:=bQ jf Try.f22
@[reducible] def pb:FS:={pm:=[Y],rm:=[Y],f:=fS}
theorem pi:aH gl0 Try.prog 22 pb:=aS (c:=jf) aF Try.func22 rfl rfl (by kernel_rfl)
@[reducible] def jy:Cx:={K:=[Y,Y,.box 4 0 false,.no,Y,Y,Yr 2,Y,Y,Y,Y,Y,Y],T:=[(3,ty3),(9,ty9),(43,GU)],S:=[],H:=[],res:=[.tmp 4],ios:=[],G:=gl0}
def er:List D→Option Out:=bQ jy Try.f20
@[reducible] def pC:FS:={pm:=[Y,Y],rm:=[Y],f:=er}
theorem oS:aH gl0 Try.prog 20 pC:=aS (c:=jy) aF Try.func20 rfl rfl (by kernel_rfl)
open Go Go.V
set_option maxRecDepth 100000
theorem rv (x0 x1:D):il [x0,x1]=(aO (eF [x0,x1,I 1]) fun c _=>(jj (.tup c) 0).bind fun y=>(jj (qu (.tup c) 0) 1).bind fun z=>some (.ret [y,z] [])):=by kernel_rfl
theorem mK (x0 x1:D):dw [x0,x1]=((fF 4 x0).bind fun y=>(bh (fun s=>(ae (sl s 1) (.ref 0 1)).bind fun z=>((atD (sl s 1) z).bind (an false 1)).bind fun z=>(lenD false z).bind fun z=>(bin .lss false [] (sl s 2) z).bind fun z=>(al D.bad z true (ae (sl s 1) (.ref 0 1))).bind fun c=>(al (.tup []) z true ((atD (sl s 1) c).bind (an false 1))).bind fun d=>(al (.tup []) z true (some (sl s 2))).bind fun e=>(al (.tup []) z true (HJ D.ptr (bj 4 d e))).bind fun f=>(al (.tup []) z true (jE 0 f)).bind fun g=>(al (.tup []) z true ((ldD false 1 g).bind bB)).bind fun h=>(al (.tup []) z true (some (sl s 0))).bind fun j=>(al (.tup []) z true (bin .lss false [] h j)).bind fun k=>(bg z k (B false)).bind fun z=>ifD z ((bin .add false [] (sl s 2) (I 1)).bind fun z=>some (.nrm [sl s 0,sl s 1,z])) (some (.ext 0 [sl s 0,sl s 1,sl s 2]))) [x1,y,I 0]).bind fun o=>de o (fun i s=>ifN (i.beq 0) ((ae (sl s 1) (.ref 0 1)).bind fun z=>((atD (sl s 1) z).bind (an false 1)).bind fun z=>(lenD false z).bind fun z=>(bin .lss false [] (sl s 2) z).bind fun z=>(al D.bad z true (ae (sl s 1) (.ref 0 1))).bind fun c=>(al (.tup []) z true ((atD (sl s 1) c).bind (an false 1))).bind fun d=>(al (.tup []) z true (some (sl s 2))).bind fun e=>(al (.tup []) z true (HJ D.ptr (bj 4 d e))).bind fun f=>(al (.tup []) z true (jE 0 f)).bind fun g=>(al (.tup []) z true ((ldD false 1 g).bind bB)).bind fun h=>(al (.tup []) z true (some (sl s 0))).bind fun j=>(al (.tup []) z true (bin .eql false [] h j)).bind fun k=>(bg z k (B false)).bind fun z=>some (.ret [sl s 2,z] [])) none) fun a b=>some (.ret a b)):=by kernel_rfl
theorem qv (x0 x1:D):gu [x0,x1]=(aO (eF [x0,x1,I (-1)]) fun c _=>(jj (.tup c) 0).bind fun y=>(jj (qu (.tup c) 0) 1).bind fun z=>some (.ret [y,z] [])):=by kernel_rfl
theorem sP (x0 x1 x2:D):eF [x0,x1,x2]=(aO (dV [x0,x1]) fun c _=>(un .not (sl c 0)).bind fun z=>ifD z ((dA 4 []).bind fun a=>some (.ret [a,B false] [])) ((dA 4 []).bind fun a=>(kz x0).bind fun b=>(je 4 40 a b).bind fun y=>(lenD false x1).bind fun z=>(bh (fun s=>(bin .lss false [] (sl s 5) (sl s 4)).bind fun z=>ifD z ((HJ D.ptr (bj 1 (sl s 3) (sl s 5))).bind fun z=>((ldD false 1 z).bind bB).bind fun z=>(ae (sl s 2) (.ref 0 0)).bind fun d=>aO (fR [sl s 0,z]) fun c _=>((ae d (sl s 2)).bind fun b=>kt 4 b (sl c 0)).bind fun z=>(gI 3 z).bind fun z=>((atD (sl s 2) z).bind (an false 1)).bind fun z=>(bin .add false [] z (sl s 1)).bind fun z=>((ae d (sl s 2)).bind fun b=>kt 4 b (sl c 0)).bind fun e=>(gI 3 e).bind fun f=>(stD 1 (sl s 2) f z).bind fun b=>(bin .add false [] (sl s 5) (I 1)).bind fun z=>some (.nrm [sl s 0,sl s 1,b,sl s 3,sl s 4,z])) (some (.ext 0 [sl s 2]))) [x0,x2,y,x1,z,I 0]).bind fun o=>de o (fun i s=>ifN (i.beq 0) ((ae (sl s 0) (.ref 0 0)).bind fun z=>(ae z (sl s 0)).bind fun i=>aO (eh [i]) fun c _=>(un .not (sl c 0)).bind fun z=>ifD z ((dA 4 []).bind fun a=>some (.ret [a,B false] [])) (some (.ret [sl s 0,B true] []))) none) fun a b=>some (.ret a b))):=by kernel_rfl
theorem tY (x0 x1:D):ja [x0,x1]=((dA 2 []).bind fun a=>(lenD false x0).bind fun z=>(bh (fun s=>(bin .lss false [] (sl s 4) (sl s 3)).bind fun z=>ifD z ((HJ D.ptr (bj 4 (sl s 2) (sl s 4))).bind fun z=>((ldD true 4 z).bind bB).bind fun z=>(stD 4 (.agg [.v (.string ⟨⟨[]⟩⟩),I 0,I 0,I 0]) (.ref 0 0) z).bind fun b=>(ae b (.ref 0 0)).bind fun z=>((atD b z).bind (an false 1)).bind fun z=>(zU [(0,1),(1,1)] [.v (.string ⟨⟨[]⟩⟩),I 0] [z,I 1]).bind fun z=>(dA 2 [z]).bind fun a=>(kz a).bind fun b=>(je 2 24 (sl s 1) b).bind fun y=>(bin .add false [] (sl s 4) (I 1)).bind fun z=>some (.nrm [sl s 0,y,sl s 2,sl s 3,z])) (some (.ext 0 [sl s 0,sl s 1]))) [x1,a,x0,z,I 0]).bind fun o=>de o (fun i s=>ifN (i.beq 0) ((ae (sl s 1) (.ref 0 0)).bind fun z=>(ae z (sl s 1)).bind fun i=>aO (eD [i,sl s 0]) fun c _=>(jj (.tup c) 0).bind fun y=>(jj (qu (.tup c) 0) 1).bind fun z=>(dA 1 []).bind fun a=>(lenD false y).bind fun d=>(bh (fun s=>(bin .lss false [] (sl s 5) (sl s 4)).bind fun z=>ifD z ((HJ D.ptr (bj 1 (sl s 3) (sl s 5))).bind fun z=>((ldD false 1 z).bind bB).bind fun z=>(ae (sl s 0) (.ref 0 0)).bind fun e=>((ae e (sl s 0)).bind fun b=>kt 2 b z).bind fun z=>(gI 0 z).bind fun z=>((atD (sl s 0) z).bind (an false 1)).bind fun z=>(dA 1 [z]).bind fun a=>(kz a).bind fun b=>(je 1 16 (sl s 2) b).bind fun y=>(bin .add false [] (sl s 5) (I 1)).bind fun z=>some (.nrm [sl s 0,sl s 1,y,sl s 3,sl s 4,z])) (some (.ext 2 [sl s 1,sl s 2]))) [sl s 1,z,a,y,d,I 0]).bind fun o=>de o (fun i s=>ifN (i.beq 2) (some (.ret [sl s 1,sl s 0] [])) none) fun a b=>some (.ret a b)) none) fun a b=>some (.ret a b)):=by kernel_rfl
theorem oN (x0:D):es [x0]=((fF 4 x0).bind fun y=>(ae y (.ref 0 1)).bind fun z=>((atD y z).bind (an false 1)).bind fun z=>aO (dC [z]) fun c _=>(un .not (sl c 0)).bind fun z=>ifD z (some (.ret [B false] [])) ((ae y (.ref 0 0)).bind fun z=>((atD y z).bind (an false 1)).bind fun z=>(bin .eql false [] z (I 1)).bind fun k=>ifD k ((ae y (.ref 0 2)).bind fun z=>((atD y z).bind (an false 1)).bind fun z=>aO (gS [z]) fun c _=>(al D.bad (sl c 0) true (ae y (.ref 0 3))).bind fun z=>(al (.tup []) (sl c 0) true ((atD y z).bind (an false 1))).bind fun z=>(al (.tup []) (sl c 0) true (bin .eql false [] z (I 0))).bind fun z=>(bg (sl c 0) z (B false)).bind fun z=>some (.ret [z] [])) ((bin .eql false [] z (I 3)).bind fun l=>ifD l ((ae y (.ref 0 2)).bind fun z=>((atD y z).bind (an false 1)).bind fun z=>(bin .eql false [] z (.v (.string ⟨⟨[]⟩⟩))).bind fun z=>(al D.bad z true (ae y (.ref 0 3))).bind fun h=>(al (.tup []) z true ((atD y h).bind (an false 1))).bind fun e=>eW z true (aO (bP [e,I 1,I 1000]) fun c _=>some (.nrm [sl c 0])) [.tup []] fun m=>(bg z (sl m 0) (B false)).bind fun z=>some (.ret [z] [])) ((bin .eql false [] z (I 2)).bind fun h=>ifD h (ifD h ((ae y (.ref 0 2)).bind fun z=>((atD y z).bind (an false 1)).bind fun z=>(bin .eql false [] z (.v (.string ⟨⟨[]⟩⟩))).bind fun z=>(al D.bad z true (ae y (.ref 0 3))).bind fun e=>(al (.tup []) z true ((atD y e).bind (an false 1))).bind fun f=>(al (.tup []) z true (bin .eql false [] f (I 0))).bind fun d=>(bg z d (B false)).bind fun z=>some (.ret [z] [])) (some (.ret [B false] []))) ((bin .eql false [] z (I 4)).bind fun e=>ifD e (ifD e ((ae y (.ref 0 2)).bind fun z=>((atD y z).bind (an false 1)).bind fun z=>(bin .eql false [] z (.v (.string ⟨⟨[]⟩⟩))).bind fun z=>(al D.bad z true (ae y (.ref 0 3))).bind fun f=>(al (.tup []) z true ((atD y f).bind (an false 1))).bind fun d=>(al (.tup []) z true (bin .eql false [] d (I 0))).bind fun g=>(bg z g (B false)).bind fun z=>some (.ret [z] [])) (some (.ret [B false] []))) ((bin .eql false [] z (I 5)).bind fun f=>ifD f (ifD f ((ae y (.ref 0 2)).bind fun z=>((atD y z).bind (an false 1)).bind fun z=>(bin .eql false [] z (.v (.string ⟨⟨[]⟩⟩))).bind fun z=>(al D.bad z true (ae y (.ref 0 3))).bind fun d=>(al (.tup []) z true ((atD y d).bind (an false 1))).bind fun g=>(al (.tup []) z true (bin .eql false [] g (I 0))).bind fun j=>(bg z j (B false)).bind fun z=>some (.ret [z] [])) (some (.ret [B false] []))) ((bin .eql false [] z (I 6)).bind fun z=>ifD z ((ae y (.ref 0 2)).bind fun z=>((atD y z).bind (an false 1)).bind fun z=>(bin .eql false [] z (.v (.string ⟨⟨[]⟩⟩))).bind fun z=>(al D.bad z true (ae y (.ref 0 3))).bind fun d=>(al (.tup []) z true ((atD y d).bind (an false 1))).bind fun g=>(al (.tup []) z true (bin .eql false [] g (I 0))).bind fun j=>(bg z j (B false)).bind fun z=>some (.ret [z] [])) (some (.ret [B false] []))))))))):=by kernel_rfl
theorem uK (x0:D):gS [x0]=(aO (dh [x0,I 1,I 16]) fun c _=>some (.ret [sl c 0] [])):=by kernel_rfl
theorem tV (x0 x1:D):eD [x0,x1]=((dA 1 []).bind fun a=>(bh (fun s=>(lenD true (sl s 1)).bind fun z=>(bin .gtr false [] z (I 0)).bind fun z=>ifD z ((lenD false (sl s 0)).bind fun z=>(bh (fun s=>(bin .lss false [] (sl s 6) (sl s 5)).bind fun z=>ifD z ((HJ D.ptr (bj 2 (sl s 4) (sl s 6))).bind fun z=>((ldD true 2 z).bind bB).bind fun z=>(stD 2 (.agg [.v (.string ⟨⟨[]⟩⟩),I 0]) (.ref 0 0) z).bind fun b=>(ae b (.ref 0 0)).bind fun z=>((atD b z).bind (an false 1)).bind fun z=>aO (dv [sl s 1,z]) fun c _=>(al (.tup []) (sl c 0) true (some (sl s 3))).bind fun z=>(al (.tup []) (sl c 0) true (bin .lss false [] z (I 0))).bind fun z=>(al (.tup []) (sl c 0) true (some z)).bind fun z=>(al D.bad z false (ae b (.ref 0 0))).bind fun d=>(al (.tup []) z false ((atD b d).bind (an false 1))).bind fun e=>(al (.tup []) z false (lenD true e)).bind fun f=>(al (.tup []) z false (some (sl s 0))).bind fun g=>(al (.tup []) z false (some (sl s 3))).bind fun h=>(al (.tup []) z false (HJ D.ptr (bj 2 g h))).bind fun j=>(al (.tup []) z false (jE 0 j)).bind fun k=>(al (.tup []) z false ((ldD false 1 k).bind bB)).bind fun l=>(al (.tup []) z false (lenD true l)).bind fun m=>(al (.tup []) z false (bin .gtr false [] f m)).bind fun n=>(al (.tup []) (sl c 0) true (bg z (B true) n)).bind fun z=>(bg (sl c 0) z (B false)).bind fun z=>ifD z ((bin .add false [] (sl s 6) (I 1)).bind fun z=>some (.nrm [sl s 0,sl s 1,sl s 2,sl s 6,sl s 4,sl s 5,z])) ((bin .add false [] (sl s 6) (I 1)).bind fun z=>some (.nrm [sl s 0,sl s 1,sl s 2,sl s 3,sl s 4,sl s 5,z]))) (some (.ext 2 [sl s 0,sl s 1,sl s 2,sl s 3]))) [sl s 0,sl s 1,sl s 2,I (-1),sl s 0,z,I 0]).bind fun o=>de o (fun i s=>ifN (i.beq 2) ((bin .lss false [] (sl s 3) (I 0)).bind fun z=>ifD z ((dA 1 []).bind fun a=>some (.ret [a,B false] [])) ((dA 1 [sl s 3]).bind fun a=>(kz a).bind fun b=>(je 1 8 (sl s 2) b).bind fun y=>(HJ D.ptr (bj 2 (sl s 0) (sl s 3))).bind fun z=>(jE 0 z).bind fun z=>((ldD false 1 z).bind bB).bind fun z=>(lenD true z).bind fun z=>(jk true 0 (sl s 1) z).bind fun z=>some (.nrm [sl s 0,z,y]))) (ifN (i.beq 1) (some (.nrm [sl s 0,sl s 1,sl s 2])) (some (.ext i [sl s 2])))) fun a b=>some (.ret a b)) (some (.ext 0 [sl s 2]))) [x0,x1,a]).bind fun o=>de o (fun i s=>ifN (i.beq 0) (some (.ret [sl s 0,B true] [])) none) fun a b=>some (.ret a b)):=by kernel_rfl
theorem gb (x0 x1:D):bJ [x0,x1]=((lenD true x0).bind fun z=>(lenD true x1).bind fun c=>(bin .geq false [] z c).bind fun z=>(al (.tup []) z true (some x0)).bind fun d=>(al (.tup []) z true (some x1)).bind fun e=>(al (.tup []) z true (lenD true e)).bind fun f=>(al (.tup []) z true (fa true 0 d (I 0) f)).bind fun g=>(al (.tup []) z true (some x1)).bind fun h=>(al (.tup []) z true (bin .eql false [] g h)).bind fun j=>(bg z j (B false)).bind fun z=>some (.ret [z] [])):=by kernel_rfl
theorem oM (x0 x1:D):ew [x0,x1]=((bh (fun s=>(lenD false (sl s 0)).bind fun z=>(bin .lss false [] (sl s 2) z).bind fun z=>ifD z ((HJ D.ptr (bj 4 (sl s 0) (sl s 2))).bind fun z=>(jE 0 z).bind fun z=>((ldD false 1 z).bind bB).bind fun z=>(bin .neq false [] z (sl s 1)).bind fun z=>ifD z (some (.ret [I (-1)] [])) ((bin .add false [] (sl s 1) (I 1)).bind fun z=>(HJ D.ptr (bj 4 (sl s 0) (sl s 2))).bind fun d=>(jE 1 d).bind fun e=>(ldD false 1 e).bind fun f=>aO (dQ [f,z]) fun c _=>(bin .lss false [] (sl c 0) (I 0)).bind fun z=>ifD z (some (.ret [I (-1)] [])) ((HJ D.ptr (bj 4 (sl s 0) (sl s 2))).bind fun z=>(jE 2 z).bind fun z=>((ldD false 1 z).bind bB).bind fun z=>(bin .rem false [] (sl c 0) (I 3)).bind fun g=>(bin .eql false [] g (I 0)).bind fun h=>(bin .neq true [] z h).bind fun z=>ifD z (some (.ret [I (-1)] [])) ((bin .add false [] (sl c 0) (I 1)).bind fun z=>(HJ D.ptr (bj 4 (sl s 0) (sl s 2))).bind fun j=>(jE 3 j).bind fun k=>((ldD false 1 k).bind bB).bind fun l=>(bin .neq false [] l z).bind fun m=>ifD m (some (.ret [I (-1)] [])) ((bin .add false [] z (I 1)).bind fun z=>(bin .add false [] (sl s 2) (I 1)).bind fun n=>some (.nrm [sl s 0,z,n])))))) (some (.ext 0 [sl s 1]))) [x0,x1,I 0]).bind fun o=>de o (fun i s=>ifN (i.beq 0) (some (.ret [sl s 0] [])) none) fun a b=>some (.ret a b)):=by kernel_rfl
theorem rH (x0 x1:D):ij [x0,x1]=((fF 4 x0).bind fun y=>(ae y (.ref 0 0)).bind fun z=>((atD y z).bind (an false 1)).bind fun z=>aO (fq [z,x1]) fun c _=>(bin .lss false [] (sl c 0) (I 0)).bind fun z=>ifD z (some (.ret [I (-1)] [])) ((ae y (.ref 0 1)).bind fun z=>((atD y z).bind (an false 1)).bind fun z=>aO (ew [z,sl c 0]) fun c _=>(bin .lss false [] (sl c 0) (I 0)).bind fun z=>ifD z (some (.ret [I (-1)] [])) (some (.ret [sl c 0] [])))):=by kernel_rfl
theorem pI (x0 x1:D):er [x0,x1]=((fF 4 x0).bind fun y=>(ae y (.ref 0 2)).bind fun z=>((atD y z).bind (an false 1)).bind fun z=>(lenD true z).bind fun z=>(bin .sub false [] x1 z).bind fun z=>(bin .lss false [] z (I 0)).bind fun c=>ifD c (some (.ret [I (-1)] [])) (some (.ret [z] []))):=by kernel_rfl
theorem oJ (x0:D):fS [x0]=((fF 4 x0).bind fun y=>(ae y (.ref 0 0)).bind fun z=>((atD y z).bind (an false 1)).bind fun z=>(ae (.agg [I 0,I 0,.v (.string ⟨⟨[]⟩⟩),I 0]) (.ref 0 0)).bind fun c=>(stD 1 (.agg [I 0,I 0,.v (.string ⟨⟨[]⟩⟩),I 0]) c z).bind fun b=>(ae y (.ref 0 1)).bind fun z=>((atD y z).bind (an false 1)).bind fun z=>(ae b (.ref 0 1)).bind fun d=>(stD 1 b d z).bind fun b=>(ae y (.ref 0 2)).bind fun z=>((atD y z).bind (an false 1)).bind fun z=>(ae b (.ref 0 2)).bind fun e=>(stD 1 b e z).bind fun b=>(ae y (.ref 0 3)).bind fun z=>((atD y z).bind (an false 1)).bind fun z=>(ae b (.ref 0 3)).bind fun f=>(stD 1 b f z).bind fun b=>(kK true 4 0 b).bind fun z=>(stD 4 (.agg [I 0,I 0,.v (.string ⟨⟨[]⟩⟩),I 0]) (.ref 0 0) z).bind fun b=>(kK true 4 0 b).bind fun y=>some (.ret [y] [])):=by kernel_rfl
theorem tU (x0 x1:D):eJ [x0,x1]=((bin .lss false [] x0 x1).bind fun z=>ifD z (some (.ret [x0] [])) (some (.ret [x1] []))):=by kernel_rfl
theorem tW (x0 x1:D):iS [x0,x1]=((lenD false x0).bind fun z=>(bh (fun s=>(bin .lss false [] (sl s 4) (sl s 3)).bind fun z=>ifD z ((HJ D.ptr (bj 4 (sl s 2) (sl s 4))).bind fun z=>((ldD true 4 z).bind bB).bind fun z=>(stD 4 (.agg [.v (.string ⟨⟨[]⟩⟩),I 0,I 0,I 0]) (.ref 0 0) z).bind fun b=>(ae b (.ref 0 0)).bind fun z=>((atD b z).bind (an false 1)).bind fun z=>(zU [(0,1),(1,1)] [.v (.string ⟨⟨[]⟩⟩),I 0] [z,I 1]).bind fun z=>(dA 2 [z]).bind fun a=>(kz a).bind fun b=>(je 2 24 (sl s 1) b).bind fun y=>(bin .add false [] (sl s 4) (I 1)).bind fun z=>some (.nrm [sl s 0,y,sl s 2,sl s 3,z])) (some (.ext 0 [sl s 0,sl s 1]))) [x1,.arr 2 [],x0,z,I 0]).bind fun o=>de o (fun i s=>ifN (i.beq 0) ((ae (sl s 1) (.ref 0 0)).bind fun z=>(ae z (sl s 1)).bind fun i=>aO (iF [i,sl s 0]) fun c _=>(jj (.tup c) 0).bind fun y=>(jj (qu (.tup c) 0) 1).bind fun z=>(un .not z).bind fun z=>ifD z (some (.ret [.arr 1 [],B false] [])) ((lenD false y).bind fun z=>(bh (fun s=>(bin .lss false [] (sl s 4) (sl s 3)).bind fun z=>ifD z ((HJ D.ptr (bj 1 (sl s 2) (sl s 4))).bind fun z=>((ldD false 1 z).bind bB).bind fun z=>(ae (sl s 0) (.ref 0 0)).bind fun d=>((ae d (sl s 0)).bind fun b=>kt 2 b z).bind fun z=>(gI 0 z).bind fun z=>((atD (sl s 0) z).bind (an false 1)).bind fun z=>(dA 1 [z]).bind fun a=>(kz a).bind fun b=>(je 1 16 (sl s 1) b).bind fun y=>(bin .add false [] (sl s 4) (I 1)).bind fun z=>some (.nrm [sl s 0,y,sl s 2,sl s 3,z])) (some (.ext 2 [sl s 1]))) [sl s 1,.arr 1 [],y,z,I 0]).bind fun o=>de o (fun i s=>ifN (i.beq 2) (some (.ret [sl s 0,B true] [])) none) fun a b=>some (.ret a b))) none) fun a b=>some (.ret a b)):=by kernel_rfl
theorem vM (x0 x1:D):gW [x0,x1]=((fF 4 x0).bind fun y=>(ae y (.ref 0 1)).bind fun z=>((atD y z).bind (an false 1)).bind fun z=>(lenD false z).bind fun c=>(bh (fun s=>(bin .lss false [] (sl s 3) (sl s 2)).bind fun z=>ifD z ((HJ D.ptr (bj 4 (sl s 1) (sl s 3))).bind fun z=>(ldD true 4 z).bind fun z=>(stD 4 (.agg [I 0,.arr 1 [],B false,I 0]) (.ref 0 0) z).bind fun b=>(ae b (.ref 0 0)).bind fun z=>(((atD b z).bind (an false 1)).bind bB).bind fun z=>(bin .eql false [] z (sl s 0)).bind fun z=>ifD z (some (.ret [sl s 3] [])) ((bin .add false [] (sl s 3) (I 1)).bind fun z=>some (.nrm [sl s 0,sl s 1,sl s 2,z]))) (some (.ext 0 []))) [x1,z,c,I 0]).bind fun o=>de o (fun i _=>ifN (i.beq 0) (some (.ret [I (-1)] [])) none) fun a b=>some (.ret a b)):=by kernel_rfl
theorem uS (x0:D):gQ [x0]=((fF 4 x0).bind fun y=>(ae y (.ref 0 1)).bind fun z=>((atD y z).bind (an false 1)).bind fun z=>aO (bW [z,I 1,I 99]) fun c _=>(un .not (sl c 0)).bind fun z=>ifD z (some (.ret [B false] [])) ((ae y (.ref 0 0)).bind fun z=>((atD y z).bind (an false 1)).bind fun z=>(bin .eql false [] z (I 1)).bind fun k=>ifD k ((ae y (.ref 0 2)).bind fun z=>((atD y z).bind (an false 1)).bind fun z=>aO (gL [z]) fun c _=>(al D.bad (sl c 0) true (ae y (.ref 0 3))).bind fun z=>(al (.tup []) (sl c 0) true ((atD y z).bind (an false 1))).bind fun z=>(al (.tup []) (sl c 0) true (bin .eql false [] z (I 0))).bind fun z=>(bg (sl c 0) z (B false)).bind fun z=>some (.ret [z] [])) ((bin .eql false [] z (I 3)).bind fun l=>ifD l ((ae y (.ref 0 2)).bind fun z=>((atD y z).bind (an false 1)).bind fun z=>(bin .eql false [] z (.v (.string ⟨⟨[]⟩⟩))).bind fun z=>(al D.bad z true (ae y (.ref 0 3))).bind fun h=>(al (.tup []) z true ((atD y h).bind (an false 1))).bind fun e=>eW z true (aO (bW [e,I 1,I 1000]) fun c _=>some (.nrm [sl c 0])) [.tup []] fun m=>(bg z (sl m 0) (B false)).bind fun z=>some (.ret [z] [])) ((bin .eql false [] z (I 2)).bind fun h=>ifD h (ifD h ((ae y (.ref 0 2)).bind fun z=>((atD y z).bind (an false 1)).bind fun z=>(bin .eql false [] z (.v (.string ⟨⟨[]⟩⟩))).bind fun z=>(al D.bad z true (ae y (.ref 0 3))).bind fun e=>(al (.tup []) z true ((atD y e).bind (an false 1))).bind fun f=>(al (.tup []) z true (bin .eql false [] f (I 0))).bind fun d=>(bg z d (B false)).bind fun z=>some (.ret [z] [])) (some (.ret [B false] []))) ((bin .eql false [] z (I 4)).bind fun e=>ifD e (ifD e ((ae y (.ref 0 2)).bind fun z=>((atD y z).bind (an false 1)).bind fun z=>(bin .eql false [] z (.v (.string ⟨⟨[]⟩⟩))).bind fun z=>(al D.bad z true (ae y (.ref 0 3))).bind fun f=>(al (.tup []) z true ((atD y f).bind (an false 1))).bind fun d=>(al (.tup []) z true (bin .eql false [] d (I 0))).bind fun g=>(bg z g (B false)).bind fun z=>some (.ret [z] [])) (some (.ret [B false] []))) ((bin .eql false [] z (I 5)).bind fun f=>ifD f (ifD f ((ae y (.ref 0 2)).bind fun z=>((atD y z).bind (an false 1)).bind fun z=>(bin .eql false [] z (.v (.string ⟨⟨[]⟩⟩))).bind fun z=>(al D.bad z true (ae y (.ref 0 3))).bind fun d=>(al (.tup []) z true ((atD y d).bind (an false 1))).bind fun g=>(al (.tup []) z true (bin .eql false [] g (I 0))).bind fun j=>(bg z j (B false)).bind fun z=>some (.ret [z] [])) (some (.ret [B false] []))) ((bin .eql false [] z (I 6)).bind fun z=>ifD z ((ae y (.ref 0 2)).bind fun z=>((atD y z).bind (an false 1)).bind fun z=>(bin .eql false [] z (.v (.string ⟨⟨[]⟩⟩))).bind fun z=>(al D.bad z true (ae y (.ref 0 3))).bind fun d=>(al (.tup []) z true ((atD y d).bind (an false 1))).bind fun g=>(al (.tup []) z true (bin .eql false [] g (I 0))).bind fun j=>(bg z j (B false)).bind fun z=>some (.ret [z] [])) (some (.ret [B false] []))))))))):=by kernel_rfl
theorem uD (x0 x1:D):fj [x0,x1]=((lenD false x0).bind fun z=>(bh (fun s=>(bin .lss false [] (sl s 3) (sl s 2)).bind fun z=>ifD z ((HJ D.ptr (bj 2 (sl s 1) (sl s 3))).bind fun z=>((ldD true 2 z).bind bB).bind fun z=>(stD 2 (.agg [.v (.string ⟨⟨[]⟩⟩),I 0]) (.ref 0 0) z).bind fun b=>(ae b (.ref 0 0)).bind fun z=>((atD b z).bind (an false 1)).bind fun z=>(bin .eql false [] z (sl s 0)).bind fun z=>ifD z (some (.ret [sl s 3] [])) ((bin .add false [] (sl s 3) (I 1)).bind fun z=>some (.nrm [sl s 0,sl s 1,sl s 2,z]))) (some (.ext 0 []))) [x1,x0,z,I 0]).bind fun o=>de o (fun i _=>ifN (i.beq 0) (some (.ret [I (-1)] [])) none) fun a b=>some (.ret a b)):=by kernel_rfl
theorem xA (x0 x1:D):iF [x0,x1]=((bh (fun s=>(lenD true (sl s 1)).bind fun z=>(bin .lss false [] (sl s 3) z).bind fun z=>ifD z ((lenD true (sl s 1)).bind fun z=>(bin .sub false [] z (sl s 3)).bind fun z=>aO (eJ [I 3,z]) fun c _=>(bh (fun s=>(bin .gtr false [] (sl s 5) (I 0)).bind fun z=>(al (.tup []) z true (some (sl s 4))).bind fun d=>(al (.tup []) z true (bin .lss false [] d (I 0))).bind fun e=>(bg z e (B false)).bind fun z=>ifD z ((bin .add false [] (sl s 3) (sl s 5)).bind fun z=>(fa true 0 (sl s 1) (sl s 3) z).bind fun z=>aO (fj [sl s 0,z]) fun c _=>(bin .sub false [] (sl s 5) (I 1)).bind fun z=>some (.nrm [sl s 0,sl s 1,sl s 2,sl s 3,sl c 0,z])) (some (.ext 2 [sl s 0,sl s 1,sl s 2,sl s 3,sl s 4]))) [sl s 0,sl s 1,sl s 2,sl s 3,I (-1),sl c 0]).bind fun o=>de o (fun i s=>ifN (i.beq 2) ((bin .lss false [] (sl s 4) (I 0)).bind fun z=>ifD z (some (.ret [.arr 1 [],B false] [])) ((dA 1 [sl s 4]).bind fun a=>(kz a).bind fun b=>(je 1 8 (sl s 2) b).bind fun y=>(HJ D.ptr (bj 2 (sl s 0) (sl s 4))).bind fun z=>(jE 0 z).bind fun z=>((ldD false 1 z).bind bB).bind fun z=>(lenD true z).bind fun z=>(bin .add false [] (sl s 3) z).bind fun z=>some (.nrm [sl s 0,sl s 1,y,z]))) (ifN (i.beq 1) (some (.nrm [sl s 0,sl s 1,sl s 2,sl s 3])) (some (.ext i [sl s 2])))) fun a b=>some (.ret a b)) (some (.ext 0 [sl s 2]))) [x0,x1,.arr 1 [],I 0]).bind fun o=>de o (fun i s=>ifN (i.beq 0) (some (.ret [sl s 0,B true] [])) none) fun a b=>some (.ret a b)):=by kernel_rfl
theorem vH (x0:D):gL [x0]=(aO (dD [x0,I 16]) fun c _=>some (.ret [sl c 0] [])):=by kernel_rfl
theorem mJ (x0 x1:D):dv [x0,x1]=(aO (bJ [x0,x1]) fun c _=>some (.ret [sl c 0] [])):=by kernel_rfl
set_option maxRecDepth 100000
theorem bv {s:Sp} (h:aW s=true):(∀(j:Nat) (hj:j<s.2.1.length),fE s.1 s.2.1[j]=true)∧bI s.1=true∧s.2.1.length≤5∧(0≤s.2.2.1∧s.2.2.1≤9999):=by
 simp only [aW,HI,decide_eq_true_eq] at h;obtain⟨⟨⟨⟨h1,h2⟩,h3⟩,h4⟩,_⟩:=h;have key:∀(l:List Fm) (i:Nat),dr (pS s) i l=true→∀x∈l,fE s.1 x=true:=by
  intro l;induction l with
  | nil=>intro i _ x hx;simp at hx
  | cons y l ih =>
   intro i hp x hx;simp only [dr,HI,pS] at hp;rcases List.mem_cons.1 hx with rfl | hx
   ·exact hp.1.1
   ·exact ih (i+1) (by simpa [pS] using hp.2) x hx
 exact⟨fun j hj=>key _ 0 h1 _ (HO hj),h2,by omega,h4⟩
theorem dE {l:List Bx} {x:Fm} (h:fE l x=true):x.2.1.length≤40:=by
 simp only [fE,HI,It,decide_eq_false_iff_not] at h;omega
set_option maxRecDepth 100000
theorem CE {α β:Type} (f:Nat→α→β→α) (l:List β) (Inv:Nat→α→Prop) (hs:∀(i:Nat) (a:α) (hi:i<l.length),Inv i a→Inv (i+1) (f i a l[i])) (a:α) (h0:Inv 0 a):Inv l.length (wJ f 0 l a):=by
 have key:∀(n i:Nat) (a:α),i+n=l.length→Inv i a→Inv l.length (wJ f i (l.drop i) a):=by
  intro n;induction n with
  | zero =>
   intro i a hi hI;have:i=l.length:=by omega
   subst this;rw [List.drop_length];exact hI
  | succ n ih =>
   intro i a hi hI;have hlt:i<l.length:=by omega
   rw [Iq hlt];exact ih (i+1) _ (by omega) (hs i a hlt hI)
 simpa using key l.length 0 a (by omega) h0
theorem jY {a b:ByteArray} (h:aw a=aw b):a=b:=by
 cases a with | mk a=>cases b with | mk b =>
  cases a with | mk a=>cases b with | mk b =>
   simp [aw] at h;rw [h]
theorem fk (s:ByteArray) (i j:Nat):aw (s.extract i j)=((aw s).take j).drop i:=by
 simp [aw,List.drop_take]
theorem Dz {s:ByteArray} {z i j:Nat} (h1:i≤j) (h2:j≤s.size):fa true z (T s) (I (i:Int)) (I (j:Int))=some (T (s.extract i j)):=by
 simp only [fa,Iu];rw [if_pos (by omega)]
theorem EK {s:ByteArray} {z i:Nat} (h:i≤s.size):jk true z (T s) (I (i:Int))=some (T (s.extract i s.size)):=by
 simp only [jk,Iu];rw [if_pos (by omega)]
def Pre (c:ByteArray) (w:List UInt8):Prop:=w.take (aw c).length=aw c
instance (c:ByteArray) (w:List UInt8):Decidable (Pre c w):=by unfold Pre;infer_instance
theorem Pre.len {c:ByteArray} {w:List UInt8} (h:Pre c w):(aw c).length≤w.length:=by
 have:=congrArg Iy h;rw [In] at this;omega
theorem fI (s p:ByteArray):dv [T s,T p]=some (.ret [B (decide (Pre p (aw s)))] []):=by
 have e:bJ [T s,T p]=some (.ret [B (decide (Pre p (aw s)))] []):=by
  rw [gb];by_cases h:p.size≤s.size
  ·have hs:=Dz (z:=0) (Ii p.size) h
   have hp:(s.extract 0 p.size=p)↔Pre p (aw s):=by
    constructor
    ·intro h'
     have:=congrArg aw h';rw [fk,Ix] at this;exact this
    ·intro h'
     refine jY ?_
     rw [fk,Ix];exact h'
   have h0:fa true 0 (T s) (D.v (.int .i64 0)) (I (p.size:Int))=some (T (s.extract 0 p.size)):=hs;by_cases hq:Pre p (aw s)
   ·simp -implicitDefEqProofs [h,h0,hq,hp.2 hq]
   ·have hq':¬s.extract 0 p.size=p:=fun e=>hq (hp.1 e)
    simp -implicitDefEqProofs [h,h0,hq,hq']
  ·have hq:¬Pre p (aw s):=fun h'=>h h'.len
   simp -implicitDefEqProofs [h,hq]
 rw [mJ];simp -implicitDefEqProofs [e]
def xf (cs:List ByteArray) (w:List UInt8) (i:Nat):Prop:=∃h:i<cs.length,Pre cs[i] w∧∀(j:Nat) (hj:j<cs.length),Pre cs[j] w→(aw cs[j]).length≤(aw cs[i]).length
def qc (cs:List ByteArray) (w:List UInt8):Prop:=∀(j:Nat) (hj:j<cs.length),¬Pre cs[j] w
structure Codes (cs:List ByteArray):Prop where
 len:∀(j:Nat) (hj:j<cs.length),1≤(aw cs[j]).length∧(aw cs[j]).length≤3
 inj:∀(i j:Nat) (hi:i<cs.length) (hj:j<cs.length),cs[i]=cs[j]→i=j
theorem xf.uniq {cs:List ByteArray} {w:List UInt8} (hc:Codes cs) {i j:Nat} (hi:xf cs w i) (hj:xf cs w j):i=j:=by
 obtain⟨h1,p1,m1⟩:=hi;obtain⟨h2,p2,m2⟩:=hj;have e:(aw cs[i]).length=(aw cs[j]).length:=Nat.le_antisymm (m2 i h1 p1) (m1 j h2 p2);refine hc.inj i j h1 h2 (jY ?_)
 rw [←p1,←p2,e]
def BN (cs:List ByteArray) (w:List UInt8) (b:Int):Prop:=(b = -1∧qc cs w)∨∃k:Nat,b=k∧xf cs w k
theorem BN.best {cs:List ByteArray} {w:List UInt8} (hc:Codes cs) {b:Int} (h:BN cs w b) {i:Nat} (hi:xf cs w i):b=i:=by
 rcases h with ⟨_,h⟩ | ⟨k,rfl,h⟩
 ·exact absurd hi.2.1 (h i hi.1)
 ·rw [h.uniq hc hi]
theorem BN.none {cs:List ByteArray} {w:List UInt8} {b:Int} (h:BN cs w b) (hi:qc cs w):b = -1:=by
 rcases h with ⟨h,_⟩ | ⟨k,rfl,h⟩
 ·exact h
 ·exact absurd h.2.1 (hi k h.1)
inductive Sets (cs:List ByteArray):List UInt8→List Nat→Option (List Nat)→Prop where
 | nil {acc:List Nat}:Sets cs [] acc (some acc)
 | fail {w:List UInt8} {acc:List Nat}:w≠[]→qc cs w→Sets cs w acc none
 | step {w:List UInt8} {acc:List Nat} {i:Nat} {r:Option (List Nat)}:w≠[]→xf cs w i→Sets cs (w.drop (aw (cs.getD i HR)).length) (acc++[i]) r→Sets cs w acc r
theorem Fe {cs:List ByteArray} {w:List UInt8} (h:¬qc cs w):∃i,xf cs w i:=by
 have key:∀n,n≤cs.length→(∀(j:Nat) (hj:j<cs.length),j<n→¬Pre cs[j] w)∨∃(i:Nat) (hi:i<cs.length),i<n∧Pre cs[i] w∧∀(j:Nat) (hj:j<cs.length),j<n→Pre cs[j] w→(aw cs[j]).length≤(aw cs[i]).length:=by
  intro n;induction n with
  | zero=>exact fun _=>.inl fun j _ hj=>absurd hj (by omega)
  | succ n ih =>
   intro hn;by_cases hp:Pre cs[n] w
   ·rcases ih (by omega) with h | ⟨i,hi,h1,h2,h3⟩
    ·refine .inr ⟨n,by omega,by omega,hp,fun j hj hjn hpj=>?_⟩
     rcases HK j n with h' | h'
     ·exact absurd hpj (h j hj h')
     ·have:j=n:=by omega
      subst this;exact HC _
    ·by_cases hl:(aw cs[n]).length≤(aw cs[i]).length
     ·refine .inr ⟨i,hi,by omega,h2,fun j hj hjn hpj=>?_⟩
      rcases HK j n with h' | h'
      ·exact h3 j hj h' hpj
      ·have:j=n:=by omega
       subst this;exact hl
     ·refine .inr ⟨n,by omega,by omega,hp,fun j hj hjn hpj=>?_⟩
      rcases HK j n with h' | h'
      ·exact IV (h3 j hj h' hpj) (by omega)
      ·have:j=n:=by omega
       subst this;exact HC _
   ·rcases ih (by omega) with h | ⟨i,hi,h1,h2,h3⟩
    ·refine .inl fun j hj hjn hpj=>?_
     rcases HK j n with h' | h'
     ·exact h j hj h' hpj
     ·have:j=n:=by omega
      subst this;exact hp hpj
    ·refine .inr ⟨i,hi,by omega,h2,fun j hj hjn hpj=>?_⟩
     rcases HK j n with h' | h'
     ·exact h3 j hj h' hpj
     ·have:j=n:=by omega
      subst this;exact absurd hpj hp
 rcases key cs.length (HC _) with h' | ⟨i,hi,_,h2,h3⟩
 ·exact absurd (fun j hj=>h' j hj hj) h
 ·exact⟨i,hi,h2,fun j hj=>h3 j hj hj⟩
theorem kM {cs:List ByteArray} {i:Nat} (h:i<cs.length):cs.getD i HR=cs[i]:=by
 simp [Ig,h]
theorem nY {cs:List ByteArray} (hc:Codes cs):∀(n:Nat) (w:List UInt8) (acc:List Nat),w.length≤n→∃r,Sets cs w acc r
 | 0,w,acc,h=>by
  have:w=[]:=HN (by omega);subst this;exact⟨_,.nil⟩
 | n+1,w,acc,h=>by
  by_cases hw:w=[]
  ·subst hw
   exact⟨_,.nil⟩
  ·by_cases hN:qc cs w
   ·exact⟨_,.fail hw hN⟩
   ·obtain⟨i,hi⟩:=Fe hN
    have h1:=hc.len i hi.1;obtain⟨r,hr⟩:=nY hc n (w.drop (aw (cs.getD i HR)).length) (acc++[i]) (by
     rw [kM hi.1,HY];have:0<w.length:=List.length_pos_iff.2 hw;omega)
    exact⟨r,.step hw hi hr⟩
theorem xc {cs:List ByteArray} (hc:Codes cs) {w:List UInt8} {acc:List Nat} {r:Option (List Nat)} (h:Sets cs w acc r):(∀i∈acc,i<cs.length)→∀l,r=some l→(∀i∈l,i<cs.length)∧l.length≤acc.length+w.length:=by
 induction h with
 | nil =>
  intro h l e;cases e;exact⟨h,by simp⟩
 | fail=>intro _ l e;cases e
 | step hw hb _ ih =>
  rename_i w acc i r _;intro h l e;obtain⟨h1,h2⟩:=ih (fun j hj=>by
   rcases Ja.1 hj with hj | hj
   ·exact h j hj
   ·simp at hj
    subst hj;exact hb.1) l e
  refine⟨h1,?_⟩
  rw [Iz,Ie,HY,kM hb.1] at h2;have:=hc.len i hb.1;have:=hb.2.1.len;omega
theorem wv {cs:List ByteArray} (hc:Codes cs) {body:List D→Option Out} (w:List UInt8) (st:Nat→List Nat→List D) (fin:Option (List Nat)→Out) (hfin:∀r,(fin r).ends=true)
  (h0:∀acc,acc.length≤w.length→body (st w.length acc)=some (fin (some acc))) (hf:∀at_ acc,at_<w.length→acc.length≤at_→qc cs (w.drop at_)→body (st at_ acc)=some (fin none))
  (hs:∀at_ acc i (hb:xf cs (w.drop at_) i),at_<w.length→acc.length≤at_→at_+(aw (cs[i]'hb.1)).length≤w.length→body (st at_ acc)=some (.nrm (st (at_+(aw (cs[i]'hb.1)).length) (acc++[i])))) {rest:List UInt8} {acc:List Nat} {r:Option (List Nat)} (h:Sets cs rest acc r) :
  ∀at_,at_≤w.length→acc.length≤at_→rest=w.drop at_→Runs body (st at_ acc) (fin r):=by
 induction h with
 | nil =>
  intro at_ h1 h2 h3;have:=congrArg Iy h3;rw [HY,IH] at this;have:at_=w.length:=by omega
  subst this;exact Runs.one (h0 _ h2) (hfin _)
 | fail hw hN =>
  intro at_ h1 h2 h3;subst h3;have:at_<w.length:=by
   rcases HK at_ w.length with h | h
   ·exact h
   ·exact absurd (IJ h) hw
  exact Runs.one (hf at_ _ this h2 hN) (hfin _)
 | step hw hb _ ih =>
  rename_i w' acc i r _;intro at_ h1 h2 h3;subst h3;have hlt:at_<w.length:=by
   rcases HK at_ w.length with h | h
   ·exact h
   ·exact absurd (IJ h) hw
  have hl:=hb.2.1.len;rw [HY] at hl;have h1':=hc.len i hb.1;rw [kM hb.1] at ih;refine .nrm (hs at_ acc i hb hlt h2 (by omega)) (ih _ (by omega) (by rw [Iz,Ie];omega) ?_)
  rw [Jb]
set_option maxRecDepth 100000
abbrev so (c:ByteArray):D:=.agg [T c,I 1]
abbrev fD (cs:List ByteArray):D:=.arr 2 (cs.map so)
abbrev gq (l:List Nat):D:=.arr 1 (l.map fun(i:Nat)=>I (i:Int))
theorem Gn (c:ByteArray):(so c).isV=true:=rfl
theorem yj (l:List Nat) (i:Nat) (h:l.length≤1048576):je 1 8 (gq l) (.arr 1 [I (i:Int)])=some (gq (l++[i])):=by
 rw [fu,if_pos (by simp only [HE,Ie];omega)];simp
theorem zn (i:Nat):dA 1 [I (i:Int)]=some (.arr 1 [I (i:Int)]):=by simp [dA,nV]
theorem yC (i:Nat):kz (.arr 1 [I (i:Int)])=some (.arr 1 [I (i:Int)]):=by simp [kz,D.isV]
theorem tf {β:Type} {p:β→Bool}:∀{l:List β} {i j:Nat},dJ p i l=some j→i≤j∧∃h:j - i<l.length,p l[j - i]=true
 | [],i,j,h=>by simp [dJ] at h
 | x::l,i,j,h=>by
  simp only [dJ] at h;split at h
  ·rename_i hp
   cases h;exact⟨HC _,by simp,by simpa using hp⟩
  ·obtain⟨h1,h2,h3⟩:=tf h
   refine⟨by omega,by simp;omega,?_⟩
   have:j - i=(j - (i+1))+1:=by omega
   simp only [this,Ia];exact h3
theorem nI {β:Type} {p:β→Bool}:∀{l:List β} {i:Nat},dJ p i l=none→∀(j:Nat) (hj:j<l.length),p l[j]=false
 | [],i,_,j,hj=>by simp at hj
 | x::l,i,h,j,hj=>by
  simp only [dJ] at h;split at h
  ·cases h
  ·rename_i hp
   cases j with
   | zero=>simpa using hp
   | succ j=>exact nI h j (by simpa using hj)
def fC (cs:List ByteArray) (c:ByteArray):Int:=(dJ (fun b:ByteArray=>decide (b=c)) 0 cs).elim (-1) fun j=>(j:Int)
theorem vo (cs:List ByteArray) (c:ByteArray) (h:cs.length≤1048576):fj [fD cs,T c]=some (.ret [I (fC cs c)] []):=by
 rw [uD];simp only [cu,HE,HT];refine aT _ (mF cs (fun i=>[T c,fD cs,I cs.length,I i]) (fun b:ByteArray=>decide (b=c)) (fun j=>.ret [I j] []) (.ext 0 []) (fun i hi=>?_) ?_ (fun _=>rfl) rfl rfl) ?_
 ·have hw:HD.wrap ((i:Int)+1)=(i:Int)+1:=ao (by omega) (by omega)
  by_cases hc:cs[i]=c<;>simp -implicitDefEqProofs [hi,hw,hc]
 ·simp
 ·unfold fC
  cases dJ (fun b:ByteArray=>decide (b=c)) 0 cs<;>simp -implicitDefEqProofs
theorem DD {cs:List ByteArray} {c:ByteArray}:(fC cs c = -1∧∀(j:Nat) (hj:j<cs.length),cs[j]≠c)∨∃(j:Nat) (hj:j<cs.length),fC cs c=j∧cs[j]=c:=by
 unfold fC;cases h:dJ (fun b:ByteArray=>decide (b=c)) 0 cs with
 | none=>exact .inl ⟨rfl,fun j hj=>by simpa using nI h j hj⟩
 | some j =>
  obtain⟨_,h1,h2⟩:=tf h;exact .inr ⟨j,by simpa using h1,rfl,by simpa using h2⟩
theorem ud (a b:Int):eJ [I a,I b]=some (.ret [I (if a<b then a else b)] []):=by
 rw [tU];by_cases h:a<b<;>simp -implicitDefEqProofs [h]
def rK (r:Option (List Nat)):Out:=match r with
 | some l=>.ext 0 [gq l]
 | none=>.ret [gq [],B false] []
def Cy (r:Option (List Nat)):Option Out:=some (.ret [gq (r.getD []),B r.isSome] [])
theorem qU {cs:List ByteArray} (hc:Codes cs) (hl:cs.length≤1048576) (s:ByteArray) (hs:s.size≤1000) (at_:Nat) (acc:List Nat) (hlt':at_<s.size):∃m:Nat,eJ [I 3,I ((s.size - at_:Nat):Int)]=some (.ret [I m] []) ∧
  ∀(R:Option Out→Prop) (body:List D→Option Out) (K:Out→Option Out),(∀(b:Int) (n:Nat),body [fD cs,T s,gq acc,I at_,I b,I n]=if 0<n∧b<0 then(((some (HD.wrap ((at_:Int)+n)):Option Int).bind fun e=>fa true 0 (T s) (I at_) (I e)).bind fun z=>aO (fj [fD cs,z]) fun rs _=>some (.nrm [fD cs,T s,gq acc,I at_,sl rs 0,I (HD.wrap ((n:Int) - 1))])) else some (.ext 2 [fD cs,T s,gq acc,I at_,I b])) →
    (∀b,BN cs ((aw s).drop at_) b→R (K (.ext 2 [fD cs,T s,gq acc,I at_,I b])))→R ((bh body [fD cs,T s,gq acc,I at_,I (-1),I m]).bind K):=by
 have hsz:s.size=(aw s).length:=rfl;obtain⟨m,hm1,hm2,hm3⟩:∃m:Nat,(if (3:Int)<((s.size - at_:Nat):Int) then(3:Int) else((s.size - at_:Nat):Int))=m∧m≤3∧(at_+m≤s.size∧(m=3∨at_+m=s.size)):=by
  by_cases h3:(3:Int)<((s.size - at_:Nat):Int)
  ·exact⟨3,by rw [if_pos h3];rfl,by omega,by omega,.inl rfl⟩
  ·exact⟨s.size - at_,by rw [if_neg h3],by omega,by omega,.inr (by omega)⟩
 have el:=ud 3 ((s.size - at_:Nat):Int);rw [hm1] at el;refine⟨m,el,?_⟩
 intro R body K hbody hK;refine kB R (fun a:Int × Nat=>[fD cs,T s,gq acc,I at_,I a.1,I a.2]) (fun a=>a.2≤3∧at_+a.2≤s.size∧((a.1 = -1∧∀(j:Nat) (hj:j<cs.length),Pre cs[j] ((aw s).drop at_)→(aw cs[j]).length≤a.2)∨∃k:Nat,a.1=k∧xf cs ((aw s).drop at_) k)) (fun a=>a.2)
  (fun o=>∃b,o = .ext 2 [fD cs,T s,gq acc,I at_,I b]∧BN cs ((aw s).drop at_) b) (fun a hI=>?_) (-1,m) ⟨hm2,hm3.1,.inl ⟨rfl,fun j hj hp=>?_⟩⟩ rfl (fun o ho=>?_)
 ·obtain⟨b,n⟩:=a
  obtain⟨i1,i2,i3⟩:=hI;simp only at i1 i2 i3;rw [hbody];by_cases hcond:0<n∧b<0
  ·rw [if_pos hcond]
   have hwn:HD.wrap ((at_:Int)+n)=((at_+n:Nat):Int):=by rw [ao (by omega) (by omega)];omega
   have hwm:HD.wrap ((n:Int) - 1)=((n - 1:Nat):Int):=by rw [ao (by omega) (by omega)];omega
   have hsl:=Dz (s:=s) (z:=0) (i:=at_) (j:=at_+n) (by omega) (by omega);have hch:aw (s.extract at_ (at_+n))=((aw s).drop at_).take n:=by
    rw [fk,List.drop_take];congr 1
    omega
   simp only [HT,hwn,hwm,hsl,vo cs _ hl,mw,rS];rcases i3 with ⟨rfl,hmax⟩ | ⟨k,rfl,_⟩
   ·refine .inl ⟨(fC cs (s.extract at_ (at_+n)),n - 1),rfl,⟨by simp only;omega,by simp only;omega,?_⟩,by simp only;omega⟩
    simp only;rcases DD (cs:=cs) (c:=s.extract at_ (at_+n)) with ⟨e1,e2⟩ | ⟨j,hj,e1,e2⟩
    ·refine .inl ⟨e1,fun j hj hp=>?_⟩
     have h1:=hmax j hj hp;rcases HK (aw cs[j]).length n with h' | h'
     ·omega
     ·exfalso
      have:(aw cs[j]).length=n:=by omega
      refine e2 j hj (jY ?_)
      rw [hch,←hp,this]
    ·have hln:(aw cs[j]).length=n:=by
      rw [e2,hch,In,HY];omega
     refine .inr ⟨j,e1,hj,?_,fun j' hj' hp'=>by rw [hln];exact hmax j' hj' hp'⟩
     unfold Pre;rw [hln,e2,hch]
   ·omega
  ·rw [if_neg hcond]
   refine .inr ⟨_,rfl,rfl,b,rfl,?_⟩
   rcases i3 with ⟨rfl,hmax⟩ | ⟨k,rfl,hk⟩
   ·refine .inl ⟨rfl,fun j hj hp=>?_⟩
    have h1:=hmax j hj hp;have h2:=(hc.len j hj).1;omega
   ·exact .inr ⟨k,rfl,hk⟩
 ·have h1:=(hc.len j hj).2
  have h2:=hp.len;rw [HY] at h2;simp only;omega
 ·obtain⟨b,rfl,hb⟩:=ho
  exact hK b hb
theorem xT {cs:List ByteArray} (hc:Codes cs) (hl:cs.length≤1048576) (s:ByteArray) (hs:s.size≤1000) {r:Option (List Nat)} (h:Sets cs (aw s) [] r):iF [fD cs,T s]=Cy r:=by
 rw [xA];have hsz:s.size=(aw s).length:=rfl;refine aT (rK r) (Runs.loop (wv hc (aw s) (fun at_ acc=>[fD cs,T s,gq acc,I at_]) rK (fun r=>by cases r<;>rfl) (fun acc ha=>?_) (fun at_ acc hlt ha hN=>?_) (fun at_ acc i hb hlt ha hle=>?_) h 0 (Ii _) (by simp) (by simp))) ?_
 ·simp -implicitDefEqProofs [hsz,rK]
 ·have hw0:HD.wrap ((s.size:Int) - at_)=((s.size - at_:Nat):Int):=by rw [ao (by omega) (by omega)];omega
  have hlt':at_<s.size:=by omega
  obtain⟨m,el,inner⟩:=qU hc hl s hs at_ acc hlt';simp -implicitDefEqProofs [hlt',hw0,el];refine inner (fun X=>X=some (rK none)) _ _ (fun b n=>?_) (fun b hb=>?_)
  ·by_cases h1:0<n<;>by_cases h2:b<0<;>simp -implicitDefEqProofs [h1,h2]
  ·have:=hb.none hN
   subst this;simp -implicitDefEqProofs [rK]
 ·have hw0:HD.wrap ((s.size:Int) - at_)=((s.size - at_:Nat):Int):=by rw [ao (by omega) (by omega)];omega
  have hlt':at_<s.size:=by omega
  obtain⟨m,el,inner⟩:=qU hc hl s hs at_ acc hlt';simp -implicitDefEqProofs [hlt',hw0,el];refine inner (fun X=>X=some (.nrm [fD cs,T s,gq (acc++[i]),I ((at_+(aw (cs[i]'hb.1)).length:Nat):Int)])) _ _ (fun b n=>?_) (fun b hb'=>?_)
  ·by_cases h1:0<n<;>by_cases h2:b<0<;>simp -implicitDefEqProofs [h1,h2]
  ·have:=hb'.best hc hb
   subst this;have hi:=hb.1;have hsl:(cs[i]).size=(aw cs[i]).length:=rfl;have hwa:HD.wrap ((at_:Int)+(aw cs[i]).length)=(at_:Int)+(aw cs[i]).length:=ao (by omega) (by omega);simp -implicitDefEqProofs [zn,yC,yj acc i (by omega),hi,hsl,hwa,-fu]
 ·cases r<;>simp -implicitDefEqProofs [rK,Cy]
set_option maxRecDepth 100000
def qX (cs:List ByteArray) (w:List UInt8) (i:Nat) (b:Int) (c:ByteArray):Int:=if Pre c w∧(b<0∨(aw (cs.getD b.toNat HR)).length<(aw c).length) then i else b
theorem mY {cs:List ByteArray} (rest:ByteArray) (acc:List Nat) (hl:cs.length≤1048576):∀(R:Option Out→Prop) (body:List D→Option Out) (K:Out→Option Out),
  (∀(i:Nat) (hi:i<cs.length) (b:Int),(b<0∨∃k:Nat,b=k∧k<cs.length)→HD.wrap ((i:Int)+1)=(i:Int)+1→body [fD cs,T rest,gq acc,I b,fD cs,I cs.length,I i]=some (.nrm [fD cs,T rest,gq acc,I (qX cs (aw rest) i b cs[i]),fD cs,I cs.length,I ((i:Int)+1)])) →
  (∀b,body [fD cs,T rest,gq acc,I b,fD cs,I cs.length,I cs.length]=some (.ext 2 [fD cs,T rest,gq acc,I b])) →
  (∀b,BN cs (aw rest) b→R (K (.ext 2 [fD cs,T rest,gq acc,I b])))→R ((bh body [fD cs,T rest,gq acc,I (-1),fD cs,I cs.length,I 0]).bind K):=by
 intro R body K h1 h2 h3;have inv:∀(i:Nat) (b:Int) (hi:i<cs.length),((b = -1∧∀(j:Nat) (hj:j<cs.length),j<i→¬Pre cs[j] (aw rest))∨∃(k:Nat) (hk:k<cs.length),b=k∧Pre cs[k] (aw rest)∧∀(j:Nat) (hj:j<cs.length),j<i→Pre cs[j] (aw rest)→(aw cs[j]).length≤(aw cs[k]).length) →
   ((qX cs (aw rest) i b cs[i] = -1∧∀(j:Nat) (hj:j<cs.length),j<i+1→¬Pre cs[j] (aw rest))∨∃(k:Nat) (hk:k<cs.length),qX cs (aw rest) i b cs[i]=k∧Pre cs[k] (aw rest)∧∀(j:Nat) (hj:j<cs.length),j<i+1→Pre cs[j] (aw rest)→(aw cs[j]).length≤(aw cs[k]).length):=by
  intro i b hi hI;unfold qX;rcases hI with ⟨rfl,hN⟩ | ⟨k,hk,rfl,hp,hmax⟩
  ·by_cases hpi:Pre cs[i] (aw rest)
   ·rw [if_pos ⟨hpi,.inl (by omega)⟩]
    refine .inr ⟨i,hi,rfl,hpi,fun j hj hji hpj=>?_⟩
    rcases HK j i with h | h
    ·exact absurd hpj (hN j hj h)
    ·have:j=i:=by omega
     subst this;exact HC _
   ·rw [if_neg (fun h=>hpi h.1)]
    refine .inl ⟨rfl,fun j hj hji hpj=>?_⟩
    rcases HK j i with h | h
    ·exact hN j hj h hpj
    ·have:j=i:=by omega
     subst this;exact hpi hpj
  ·rw [Iu,kM hk]
   by_cases hc:Pre cs[i] (aw rest)∧((k:Int)<0∨(aw cs[k]).length<(aw cs[i]).length)
   ·rw [if_pos hc]
    refine .inr ⟨i,hi,rfl,hc.1,fun j hj hji hpj=>?_⟩
    rcases HK j i with h | h
    ·have:=hmax j hj h hpj
     omega
    ·have:j=i:=by omega
     subst this;exact HC _
   ·rw [if_neg hc]
    refine .inr ⟨k,hk,rfl,hp,fun j hj hji hpj=>?_⟩
    rcases HK j i with h | h
    ·exact hmax j hj h hpj
    ·have:j=i:=by omega
     subst this;rcases HK (aw cs[k]).length (aw cs[j]).length with h' | h'
     ·exact absurd ⟨hpj,.inr h'⟩ hc
     ·exact h'
 rw [Av (body:=body) (s0:=[fD cs,T rest,gq acc,I (-1),fD cs,I cs.length,I 0]) cs (fun i b=>[fD cs,T rest,gq acc,I b,fD cs,I cs.length,I i]) (fun i b=>(b = -1∧∀(j:Nat) (hj:j<cs.length),j<i→¬Pre cs[j] (aw rest))∨∃(k:Nat) (hk:k<cs.length),b=k∧Pre cs[k] (aw rest)∧∀(j:Nat) (hj:j<cs.length),j<i→Pre cs[j] (aw rest)→(aw cs[j]).length≤(aw cs[k]).length)
  (fun i b c=>qX cs (aw rest) i b c) (fun b=>.ext 2 [fD cs,T rest,gq acc,I b]) (-1) (fun i b hi hI=>⟨h1 i hi b (by
   rcases hI with ⟨rfl,_⟩ | ⟨k,hk,rfl,_⟩
   ·exact .inl (by omega)
   ·exact .inr ⟨k,rfl,hk⟩) (ao (by omega) (by omega)),inv i b hi hI⟩) (fun b _=>h2 b) (fun _=>rfl) (.inl ⟨rfl,fun j _ hj=>absurd hj (by omega)⟩) rfl]
 have hfin:=CE (fun i b c=>qX cs (aw rest) i b c) cs (fun i b=>(b = -1∧∀(j:Nat) (hj:j<cs.length),j<i→¬Pre cs[j] (aw rest))∨∃(k:Nat) (hk:k<cs.length),b=k∧Pre cs[k] (aw rest)∧∀(j:Nat) (hj:j<cs.length),j<i→Pre cs[j] (aw rest)→(aw cs[j]).length≤(aw cs[k]).length)
  (fun i b hi hI=>inv i b hi hI) (-1) (.inl ⟨rfl,fun j _ hj=>absurd hj (by omega)⟩)
 refine h3 _ ?_
 rcases hfin with ⟨e,hN⟩ | ⟨k,hk,e,hp,hmax⟩
 ·exact .inl ⟨e,fun j hj=>hN j hj hj⟩
 ·exact .inr ⟨k,e,hk,hp,fun j hj=>hmax j hj hj⟩
theorem yE (s:ByteArray):s.extract 0 s.size=s:=by
 refine jY ?_
 rw [fk,Ix];exact IG
theorem gB (s:ByteArray) (at_:Nat):aw (s.extract at_ s.size)=(aw s).drop at_:=by
 rw [fk];congr 1
 exact IG
theorem qo (s:ByteArray) (at_:Nat):(s.extract at_ s.size).size=s.size - at_:=by
 show(aw (s.extract at_ s.size)).length=(aw s).length - at_
 rw [gB,HY]
theorem Ch (s:ByteArray) (at_ n:Nat):(s.extract at_ s.size).extract n (s.extract at_ s.size).size=s.extract (at_+n) s.size:=by
 refine jY ?_
 rw [gB,gB,gB,Jb]
theorem sb {cs:List ByteArray} (hc:Codes cs) (hl:cs.length≤1048576) (s:ByteArray) (hs:s.size≤1000) {r:Option (List Nat)} (h:Sets cs (aw s) [] r):eD [fD cs,T s]=Cy r:=by
 rw [tV];have hsz:s.size=(aw s).length:=rfl;simp only [ee,HT];refine aT (rK r) (Runs.loop (wv hc (aw s) (fun at_ acc=>[fD cs,T (s.extract at_ s.size),gq acc]) rK (fun r=>by cases r<;>rfl) (fun acc ha=>?_) (fun at_ acc hlt ha hN=>?_) (fun at_ acc i hb hlt ha hle=>?_) h 0 (Ii _) (by simp) (by simp)) |> fun e=>by rw [yE] at e;exact e) ?_
 ·have h0:(s.extract (aw s).length s.size).size=0:=by rw [qo,hsz];omega
  simp -implicitDefEqProofs [h0,rK]
 ·have h0:=qo s at_
  have h0':0<s.size - at_:=by omega
  simp -implicitDefEqProofs [h0'];refine mY (s.extract at_ s.size) acc hl (fun X=>X=some (rK none)) _ _ (fun i hi b hb hwi=>?_) (fun b=>?_) (fun b hb=>?_)
  ·unfold qX
   by_cases hp:Pre cs[i] (aw (s.extract at_ s.size))
   ·rcases hb with hb | ⟨k,rfl,hk⟩
    ·simp -implicitDefEqProofs [hi,hwi,fI,hp,hb]
    ·have hk':¬(k:Int)<0:=by omega
     have z1:cs[i].size=(aw cs[i]).length:=rfl;have z2:cs[k].size=(aw cs[k]).length:=rfl;by_cases hlt2:(aw cs[k]).length<(aw cs[i]).length<;>simp -implicitDefEqProofs [hi,hwi,fI,hp,hk,hk',z1,z2,hlt2]
   ·simp -implicitDefEqProofs [hi,hwi,fI,hp]
  ·simp -implicitDefEqProofs
  ·rw [gB] at hb
   have:=hb.none hN;subst this;simp -implicitDefEqProofs [rK,ee]
 ·have h0:=qo s at_
  have h0':0<s.size - at_:=by omega
  simp -implicitDefEqProofs [h0'];refine mY (s.extract at_ s.size) acc hl (fun X=>X=some (.nrm [fD cs,T (s.extract (at_+(aw (cs[i]'hb.1)).length) s.size),gq (acc++[i])])) _ _ (fun i hi b hb hwi=>?_) (fun b=>?_) (fun b hb'=>?_)
  ·unfold qX
   by_cases hp:Pre cs[i] (aw (s.extract at_ s.size))
   ·rcases hb with hb | ⟨k,rfl,hk⟩
    ·simp -implicitDefEqProofs [hi,hwi,fI,hp,hb]
    ·have hk':¬(k:Int)<0:=by omega
     have z1:cs[i].size=(aw cs[i]).length:=rfl;have z2:cs[k].size=(aw cs[k]).length:=rfl;by_cases hlt2:(aw cs[k]).length<(aw cs[i]).length<;>simp -implicitDefEqProofs [hi,hwi,fI,hp,hk,hk',z1,z2,hlt2]
   ·simp -implicitDefEqProofs [hi,hwi,fI,hp]
  ·simp -implicitDefEqProofs
  ·rw [gB] at hb'
   have:=hb'.best hc hb;subst this;have hi:=hb.1;have hz:(cs[i]).size=(aw cs[i]).length:=rfl;have hsl:=EK (s:=s.extract at_ s.size) (z:=0) (i:=(aw cs[i]).length) (by omega);rw [Ch s at_ _] at hsl;simp -implicitDefEqProofs [zn,yC,yj acc i (by omega),hi,hz,hsl,-fu]
 ·cases r<;>simp -implicitDefEqProofs [rK,Cy]
set_option maxRecDepth 100000
theorem lW:∀x:List UInt8,HV x x=false
 | []=>rfl
 | a::x=>by
  simp only [HV,lW x,Bool.and_false,Bool.or_false,decide_eq_false_iff_not];exact UInt8.lt_irrefl a
theorem um:∀x y z:List UInt8,HV x y=true→HV y z=true→HV x z=true
 | _,[],_,h,_=>by simp [HV] at h
 | _,_::_,[],_,h=>by simp [HV] at h
 | [],_::_,_::_,_,_=>rfl
 | a::x,b::y,c::z,h1,h2=>by
  simp only [HV,Bool.or_eq_true,decide_eq_true_eq,HI,beq_iff_eq] at h1 h2 ⊢;rcases h1 with h1 | ⟨rfl,h1⟩
  ·rcases h2 with h2 | ⟨rfl,_⟩
   ·exact .inl (UInt8.lt_trans h1 h2)
   ·exact .inl h1
  ·rcases h2 with h2 | ⟨rfl,h2⟩
   ·exact .inl h2
   ·exact .inr ⟨rfl,um x y z h1 h2⟩
abbrev aK (l:List Bx):List ByteArray:=l.map (·.1)
theorem wZ {β:Type} {p:Nat→β→Bool}:∀{l:List β} {i:Nat},dr p i l=true→∀(j:Nat) (hj:j<l.length),p (i+j) l[j]=true
 | [],_,_,j,hj=>by simp at hj
 | x::l,i,h,j,hj=>by
  simp only [dr,HI] at h;cases j with
  | zero=>exact h.1
  | succ j =>
   have:=wZ h.2 j (by simpa using hj);rw [show i+(j+1)=i+1+j from by omega];exact this
theorem ia {l:List Bx} (h:bI l=true):Codes (aK l):=by
 simp only [bI,HI,decide_eq_true_eq] at h;have hp:∀(j:Nat) (hj:j<l.length),pBx l j l[j]=true:=fun j hj=>by
  have:=wZ h.1 j hj;rwa [IF] at this
 have asc:∀(d i:Nat) (hj:i+d+1<l.length),HV (l[i]'(by omega)).1.toList l[i+d+1].1.toList=true:=by
  intro d;have one:∀(i:Nat) (hj:i+1<l.length),HV (l[i]'(by omega)).1.toList l[i+1].1.toList=true:=fun i hj=>by
   have:=hp (i+1) hj;simp only [pBx,HI,It,Bool.and_eq_false_iff,decide_eq_false_iff_not,Bool.not_eq_false'] at this;have h2:=this.1.2.resolve_left (by omega);rw [Nat.add_sub_cancel,Ig,Ik (by omega)] at h2;exact h2
  induction d with
  | zero=>exact fun i hj=>one i hj
  | succ d ih=>exact fun i hj=>um _ _ _ (ih i (by omega)) (one (i+d+1) (by omega))
 refine⟨fun j hj=>?_,fun i j hi hj e=>?_⟩
 ·have hj':j<l.length:=by simpa using hj
  have:=hp j hj';simp only [pBx,uO,dO,HI,decide_eq_true_eq] at this;have h2:=this.1.1.1.1.1.2;simp only [List.getElem_map];show 1≤(l[j].1).size∧(l[j].1).size≤3
  omega
 ·have hi':i<l.length:=by simpa using hi
  have hj':j<l.length:=by simpa using hj
  simp only [List.getElem_map] at e;rcases Nat.lt_trichotomy i j with h | h | h
  ·have:=asc (j - i - 1) i (by omega)
   simp only [show i+(j - i - 1)+1=j from by omega] at this;rw [e,lW] at this;cases this
  ·exact h
  ·have:=asc (i - j - 1) j (by omega)
   simp only [show j+(i - j - 1)+1=i from by omega] at this;rw [e,lW] at this;cases this
theorem AX (l:List Bx) (c:ByteArray):fB l c=fC (aK l) c:=by
 unfold fB fC;congr 1
 have:∀(m:List Bx) (i:Nat),dJ (fun b:Bx=>decide (b.1=c)) i m=dJ (fun b:ByteArray=>decide (b=c)) i (m.map (·.1)):=by
  intro m;induction m with
  | nil=>intro i;rfl
  | cons x m ih =>
   intro i;simp only [IP,dJ,ih]
 exact this l 0
theorem FZ (c:ByteArray):zU [(0,1),(1,1)] [T ⟨#[]⟩,I 0] [T c,I 1]=some (so c):=by simp [zU,wQ]
theorem DT (c:ByteArray):dA 2 [so c]=some (fD [c]):=by simp [dA,nV]
theorem Ey (l:List ByteArray) (c:ByteArray) (h:l.length≤1048576):je 2 24 (fD l) (fD [c])=some (fD (l++[c])):=by
 rw [fu,if_pos (by simp only [HE,Ie];omega)];simp
theorem Dv (c:ByteArray):kz (fD [c])=some (fD [c]):=pc Gn
theorem Di (c:ByteArray):dA 1 [T c]=some (txs [c]):=by simp [dA,nV]
theorem Dj (l:List ByteArray) (c:ByteArray) (h:l.length≤1048576):je 1 16 (txs l) (txs [c])=some (txs (l++[c])):=by
 rw [fu,if_pos (by simp only [HE,Ie];omega)];simp
theorem Ed (c:ByteArray):kz (txs [c])=some (txs [c]):=by simp [kz,D.isV]
def bS (cs:List ByteArray) (r:List Nat):List ByteArray:=r.map fun i=>cs.getD i HR
theorem jX {α:Type} {l:List α} {i:Nat} (h:i<l.length):l.take (i+1)=l.take i++[l[i]]:=Ij h
theorem tQ (l:List Bx) (hc:Codes (aK l)) (hl:l.length≤1048576) (s:ByteArray) (hs:s.size≤1000) {r:Option (List Nat)} (h:Sets (aK l) (aw s) [] r):iS [bxs l,T s]=some (.ret [txs (bS (aK l) (r.getD [])),B r.isSome] []):=by
 rw [tW];have et:=xT hc (by simpa using hl) s hs h;have hr:=xc hc h (by simp);simp only [cu,HE,HT];refine aT (.ext 0 [T s,fD (aK l)]) (cH l.length (fun i=>[T s,fD (aK (l.take i)),bxs l,I l.length,I i]) _ (fun i hi=>?_) ?_ rfl rfl) ?_
 ·have hw:HD.wrap ((i:Int)+1)=(i:Int)+1:=ao (by omega) (by omega)
  have ha:=Ey (aK (l.take i)) l[i].1 (by simp;omega);have hb:=FZ l[i].1;have h1:=DT l[i].1;have h2:=Dv l[i].1;have e:aK (l.take (i+1))=aK (l.take i)++[l[i].1]:=by
   unfold aK;rw [jX hi,Iw];rfl
  rw [e];generalize aK (l.take i)=q at ha;simp -implicitDefEqProofs [hi,hw,hb,h1,h2,ha,-fu]
 ·simp -implicitDefEqProofs
 ·cases r with
  | none=>simp -implicitDefEqProofs [et,Cy,bS]
  | some r =>
   obtain⟨q1,q2⟩:=hr r rfl;have hsz:s.size=(aw s).length:=rfl;simp -implicitDefEqProofs [et,Cy];refine aT (.ext 2 [txs (bS (aK l) r)]) (cH r.length (fun i=>[fD (aK l),txs (bS (aK l) (r.take i)),gq r,I r.length,I i]) _ (fun i hi=>?_) ?_ rfl rfl) ?_
   ·have hrl:r.length≤1000:=by simp at q2;omega
    have hw:HD.wrap ((i:Int)+1)=(i:Int)+1:=ao (by omega) (by omega);have hk:=q1 r[i] (HO hi);have ha:=Dj (bS (aK l) (r.take i)) ((aK l)[r[i]]) (by simp [bS];omega);have h1:=Di ((aK l)[r[i]]);have h2:=Ed ((aK l)[r[i]]);have e:bS (aK l) (r.take (i+1))=bS (aK l) (r.take i)++[(aK l)[r[i]]]:=by
     unfold bS;rw [jX hi,Iw,IP,List.map_nil,kM hk]
    rw [e];generalize bS (aK l) (r.take i)=q at ha;generalize aK l=cs at hk ha h1 h2;simp -implicitDefEqProofs [hi,hk,hw,h1,h2,ha,-fu]
   ·simp -implicitDefEqProofs
   ·simp -implicitDefEqProofs
theorem ub (l:List Bx) (hc:Codes (aK l)) (hl:l.length≤1048576) (s:ByteArray) (hs:s.size≤1000) {r:Option (List Nat)} (h:Sets (aK l) (aw s) [] r):ja [bxs l,T s]=some (.ret [txs (bS (aK l) (r.getD [])),B r.isSome] []):=by
 rw [tY];have et:=sb hc (by simpa using hl) s hs h;have hr:=xc hc h (by simp);have hsz:s.size=(aw s).length:=rfl;obtain⟨q,ok,hq,q1,q2,he⟩:∃(q:List Nat) (ok:Bool),r.getD []=q∧(∀i∈q,i<(aK l).length)∧q.length≤1000∧eD [fD (aK l),T s]=some (.ret [gq q,B ok] [])∧r.isSome=ok:=by
  cases r with
  | none=>exact⟨[],false,rfl,by simp,by simp,et,rfl⟩
  | some r =>
   obtain⟨q1,q2⟩:=hr r rfl;exact⟨r,true,rfl,q1,by simp at q2;omega,et,rfl⟩
 rw [hq,he.2];simp only [ee,cu,HE,HT];refine aT (.ext 0 [T s,fD (aK l)]) (cH l.length (fun i=>[T s,fD (aK (l.take i)),bxs l,I l.length,I i]) _ (fun i hi=>?_) ?_ rfl rfl) ?_
 ·have hw:HD.wrap ((i:Int)+1)=(i:Int)+1:=ao (by omega) (by omega)
  have ha:=Ey (aK (l.take i)) l[i].1 (by simp;omega);have hb:=FZ l[i].1;have h1:=DT l[i].1;have h2:=Dv l[i].1;have e:aK (l.take (i+1))=aK (l.take i)++[l[i].1]:=by
   unfold aK;rw [jX hi,Iw];rfl
  rw [e];generalize aK (l.take i)=q at ha;simp -implicitDefEqProofs [hi,hw,hb,h1,h2,ha,-fu]
 ·simp -implicitDefEqProofs
 ·simp -implicitDefEqProofs [he.1,ee]
  refine aT (.ext 2 [B ok,txs (bS (aK l) q)]) (cH q.length (fun i=>[fD (aK l),B ok,txs (bS (aK l) (q.take i)),gq q,I q.length,I i]) _ (fun i hi=>?_) ?_ rfl rfl) ?_
  ·have hw:HD.wrap ((i:Int)+1)=(i:Int)+1:=ao (by omega) (by omega)
   have hk:=q1 q[i] (HO hi);have ha:=Dj (bS (aK l) (q.take i)) ((aK l)[q[i]]) (by simp [bS];omega);have h1:=Di ((aK l)[q[i]]);have h2:=Ed ((aK l)[q[i]]);have e:bS (aK l) (q.take (i+1))=bS (aK l) (q.take i)++[(aK l)[q[i]]]:=by
    unfold bS;rw [jX hi,Iw,IP,List.map_nil,kM hk]
   rw [e];generalize bS (aK l) (q.take i)=qq at ha;generalize aK l=cs at hk ha h1 h2;simp -implicitDefEqProofs [hi,hk,hw,h1,h2,ha,-fu]
  ·simp -implicitDefEqProofs
  ·simp -implicitDefEqProofs
set_option maxRecDepth 100000
def At (cs:List ByteArray) (by_:Int) (l:List Bx) (c:ByteArray):List Bx :=
 l.set (fC cs c).toNat ((l.getD (fC cs c).toNat (HR,0,0,0)).1,(l.getD (fC cs c).toNat (HR,0,0,0)).2.1,(l.getD (fC cs c).toNat (HR,0,0,0)).2.2.1,HD.wrap ((l.getD (fC cs c).toNat (HR,0,0,0)).2.2.2+by_))
theorem CA (cs:List ByteArray) (by_:Int) (l:List Bx) (c:ByteArray):aK (At cs by_ l c)=aK l:=by
 unfold At aK;rw [List.map_set];refine IX fun i=>?_
 rw [List.getElem?_set];split
 ·rename_i h
  subst h;simp only [HE,List.getElem?_map,Ig];split
  ·rename_i h
   rw [Ik h];rfl
  ·rename_i h
   rw [Iv (by omega)];rfl
 ·rfl
def br (cs:List ByteArray) (by_:Int) (l:List Bx) (codes:List ByteArray):List Bx:=codes.foldl (At cs by_) l
theorem eC (cs:List ByteArray) (by_:Int):∀(codes:List ByteArray) (l:List Bx),aK (br cs by_ l codes)=aK l
 | [],l=>rfl
 | c::codes,l=>by
  show aK (br cs by_ (At cs by_ l c) codes)=aK l
  rw [eC cs by_ codes,CA]
theorem ku {l m:List Bx} (h:lH l) (e:aK m=aK l):lH m:=by
 have hl:m.length=l.length:=by
  have:=congrArg Iy e;simpa using this
 refine⟨by rw [hl];exact h.1,fun x hx=>?_⟩
 have:x.1∈aK m:=List.mem_map_of_mem hx;rw [e] at this;obtain⟨y,hy,hy'⟩:=Ib.1 this;rw [←hy'];exact h.2 y hy
theorem se (cs:List ByteArray) (by_:Int) (l:List Bx) (codes:List ByteArray) {i:Nat} (hi:i<codes.length):br cs by_ l (codes.take (i+1))=At cs by_ (br cs by_ l (codes.take i)) codes[i]:=by
 unfold br;rw [jX hi,List.foldl_append];rfl
theorem Bb (cs:List ByteArray) (by_:Int) (m:List Bx) (c:ByteArray) (k:Nat) (hk:fC cs c=k) (hm:k<m.length):stD 1 (bxs m) (.ref k 3) (.v (.int .i64 (HD.wrap (m[k].2.2.2+by_))))=some (bxs (At cs by_ m c)):=by
 rw [lY (c:=[T m[k].1,I m[k].2.1,I m[k].2.2.1,I m[k].2.2.2]) (by simp [hm]) (by simp)];unfold At;rw [hk,Iu,Ig,Ik hm];simp [List.map_set]
theorem vO (l:List Bx) (codes:List ByteArray) (by_:Int) (h:lH l) (hl:codes.length≤1048576) (hc:∀c∈codes,∃k:Nat,fC (aK l) c=k∧k<l.length) :
  jA [bxs l,txs codes,I by_]=some (.ret [if bI (br (aK l) by_ l codes)=true then bxs (br (aK l) by_ l codes) else .arr 4 [],B (bI (br (aK l) by_ l codes))] []):=by
 rw [uG];have h0:=h.1;have ha:je 4 40 (.arr 4 []) (bxs l)=some (bxs l):=by
  rw [fu,if_pos (by simp only [IH,HE];omega)];rfl
 simp only [ee,HT,pc De,ha,cu,HE];refine aT (.ext 0 [bxs (br (aK l) by_ l codes)]) (cH codes.length (fun i=>[I by_,bxs (br (aK l) by_ l (codes.take i)),txs codes,I codes.length,I i]) _ (fun i hi=>?_) ?_ rfl rfl) ?_
 ·have hw:HD.wrap ((i:Int)+1)=(i:Int)+1:=ao (by omega) (by omega)
  have hm:=eC (aK l) by_ (codes.take i) l;obtain⟨k,hk1,hk2⟩:=hc codes[i] (HO hi);rw [se _ _ _ _ hi];generalize br (aK l) by_ l (codes.take i)=m at hm;have hml:m.length=l.length:=by
   have:=congrArg Iy hm;simpa using this
  have ef:=jD m codes[i] (by omega);rw [AX,hm,hk1] at ef;have hkm:k<m.length:=by omega
  have eu:=Bb (aK l) by_ m codes[i] k hk1 hkm;simp -implicitDefEqProofs [hi,hw,ef,hkm,eu]
 ·simp -implicitDefEqProofs
 ·have eg:=gU _ (ku h (eC (aK l) by_ codes l))
  cases hg:bI (br (aK l) by_ l codes)<;>rw [hg] at eg<;>simp -implicitDefEqProofs [eg]
theorem lO (l:List Bx) (codes:List ByteArray) (by_:Int) (h:lH l) (hl:codes.length≤60) (hg:bI l=true) (hc:∀c∈codes,∃k:Nat,fC (aK l) c=k∧k<l.length) :
  eF [bxs l,txs codes,I by_]=some (.ret [if bI (br (aK l) by_ l codes)=true then bxs (br (aK l) by_ l codes) else .arr 4 [],B (bI (br (aK l) by_ l codes))] []):=by
 rw [sP];have h0:=h.1;have ha:je 4 40 (.arr 4 []) (bxs l)=some (bxs l):=by
  rw [fu,if_pos (by simp only [IH,HE];omega)];rfl
 have hall:jH l codes=true:=by
  have key:∀(m:List ByteArray) (i:Nat),(∀c∈m,∃k:Nat,fC (aK l) c=k∧k<l.length)→dr (fun _ c=>!decide (fB l c<0)) i m=true:=by
   intro m;induction m with
   | nil=>intro i _;rfl
   | cons c m ih =>
    intro i hm;obtain⟨k,hk,_⟩:=hm c (by simp);have hk0:¬fB l c<0:=by rw [AX,hk];omega
    simp [dr,ih (i+1) (fun d hd=>hm d (by simp [hd])),hk0]
  exact key codes 0 hc
 have ea:=lf l codes h (by omega);rw [hall,hg] at ea;have h60:(codes.length:Int)≤60:=by omega
 simp -implicitDefEqProofs only [ea,h60,decide_true,Bool.and_self,Bool.not_true,mw,rS,Am,wm,Bool.false_eq_true,if_false,ee,HT,pc De,ha,cu,HE];refine aT (.ext 0 [bxs (br (aK l) by_ l codes)]) (cH codes.length (fun i=>[bxs l,I by_,bxs (br (aK l) by_ l (codes.take i)),txs codes,I codes.length,I i]) _ (fun i hi=>?_) ?_ rfl rfl) ?_
 ·have hw:HD.wrap ((i:Int)+1)=(i:Int)+1:=ao (by omega) (by omega)
  have hm:=eC (aK l) by_ (codes.take i) l;obtain⟨k,hk1,hk2⟩:=hc codes[i] (HO hi);rw [se _ _ _ _ hi];generalize br (aK l) by_ l (codes.take i)=m at hm;have hml:m.length=l.length:=by
   have:=congrArg Iy hm;simpa using this
  have ef:=oW l codes[i] (by omega);rw [AX,hk1] at ef;have hkm:k<m.length:=by omega
  have eu:=Bb (aK l) by_ m codes[i] k hk1 hkm;simp -implicitDefEqProofs [hi,hw,ef,hkm,eu]
 ·simp -implicitDefEqProofs
 ·have eg:=dj _ (ku h (eC (aK l) by_ codes l))
  cases hg:bI (br (aK l) by_ l codes)<;>rw [hg] at eg<;>simp -implicitDefEqProofs [eg,ee]
theorem qj (l:List Bx) (codes:List ByteArray) (h:lH l) (hl:codes.length≤60) (hg:bI l=true) (hc:∀c∈codes,∃k:Nat,fC (aK l) c=k∧k<l.length) :
  gu [bxs l,txs codes]=some (.ret [if bI (br (aK l) (-1) l codes)=true then bxs (br (aK l) (-1) l codes) else .arr 4 [],B (bI (br (aK l) (-1) l codes))] []):=by
 rw [qv];have e:=lO l codes (-1) h hl hg hc;cases hq:bI (br (aK l) (-1) l codes)<;>rw [hq] at e<;>simp -implicitDefEqProofs at e<;>simp -implicitDefEqProofs [e]
theorem vl (s:ByteArray) (h:s.size≤9223372036854775807):gL [T s]=some (.ret [B (dO s 1 16)] []):=by
 rw [vH];simp [ko s 16 h]
theorem vL (s:ByteArray) (h:s.size≤9223372036854775807):gS [T s]=some (.ret [B (dO s 1 16)] []):=by
 rw [uK];simp [jz s 1 16 h]
theorem yQ {l:List Bx} {r:List Nat} (hr:∀i∈r,i<(aK l).length):∀c∈bS (aK l) r,∃k:Nat,fC (aK l) c=k∧k<l.length:=by
 intro c hcm;obtain⟨i,hi,rfl⟩:=Ib.1 hcm;have hi':=hr i hi;rw [kM hi'];rcases DD (cs:=aK l) (c:=(aK l)[i]) with ⟨_,e⟩ | ⟨j,hj,e1,e2⟩
 ·exact absurd rfl (e i hi')
 ·exact⟨j,e1,by simpa using hj⟩
set_option maxRecDepth 100000
theorem zu {β:Type} {p:β→Bool}:∀{l:List β} {i j:Nat},dJ p i l=some j→i≤j∧∃h:j - i<l.length,p l[j - i]=true∧∀(k:Nat) (hk:k<l.length),k<j - i→p l[k]=false
 | [],i,j,h=>by simp [dJ] at h
 | x::l,i,j,h=>by
  simp only [dJ] at h;by_cases hp:p x=true
  ·rw [if_pos hp] at h
   cases h;refine⟨HC _,by simp,?_,fun k _ hk=>by omega⟩
   simpa using hp
  ·rw [if_neg hp] at h
   obtain⟨h1,h2,h3,h4⟩:=zu h;have e:j - i=(j - (i+1))+1:=by omega
   refine⟨by omega,by rw [e];simpa using h2,?_,fun k hk hlt=>?_⟩
   ·have:(x::l)[j - i]'(by rw [e];simpa using h2)=l[j - (i+1)]:=by
     simp only [e,Ia]
    rw [this];exact h3
   ·cases k with
    | zero=>simpa using hp
    | succ k =>
     rw [Ia];exact h4 k (by simpa using hk) (by omega)
def idP (n:Int) (x:Fm):Bool:=decide (x.1=n)
theorem jB (s:Sp) (n:Int) (h:cK s):gW [sp s,I n]=some (.ret [I ((dJ (idP n) 0 s.2.1).elim (-1) fun j=>(j:Int))] []):=by
 rw [vM];have hl:=h.2.1;simp -implicitDefEqProofs;refine aT _ (mF s.2.1 (fun i=>[I n,fms s.2.1,I s.2.1.length,I i]) (idP n) (fun j=>.ret [I j] []) (.ext 0 []) (fun i hi=>?_) ?_ (fun _=>rfl) rfl rfl) ?_
 ·have hw:HD.wrap ((i:Int)+1)=(i:Int)+1:=ao (by omega) (by omega)
  by_cases hc:s.2.1[i].1=n<;>simp -implicitDefEqProofs [hi,hw,hc,idP]
 ·simp
 ·cases dJ (idP n) 0 s.2.1<;>simp -implicitDefEqProofs
theorem BP (s:Sp) (n:Int) (h:cK s):∃i:Nat,i≤s.2.1.length∧(∀(k:Nat) (hk:k<s.2.1.length),k<i→s.2.1[k].1<n)∧(∀hi:i<s.2.1.length,¬s.2.1[i].1<n) ∧
  dw [sp s,I n]=some (.ret [I (i:Int),B (if hi:i<s.2.1.length then decide (s.2.1[i].1=n) else false)] []):=by
 rw [mK];have hl:=h.2.1;simp -implicitDefEqProofs only [show fF 4 (sp s)=some (sp s) by simp,HT];refine kB (fun X=>∃i:Nat,i≤s.2.1.length∧(∀(k:Nat) (hk:k<s.2.1.length),k<i→s.2.1[k].1<n)∧(∀hi:i<s.2.1.length,¬s.2.1[i].1<n)∧X=some (.ret [I (i:Int),B (if hi:i<s.2.1.length then decide (s.2.1[i].1=n) else false)] []))
  (fun i:Nat=>[I n,sp s,I (i:Int)]) (fun i=>i≤s.2.1.length∧∀(k:Nat) (hk:k<s.2.1.length),k<i→s.2.1[k].1<n) (fun i=>s.2.1.length - i)
  (fun o=>∃i:Nat,o = .ext 0 [I n,sp s,I (i:Int)]∧i≤s.2.1.length∧(∀(k:Nat) (hk:k<s.2.1.length),k<i→s.2.1[k].1<n)∧∀hi:i<s.2.1.length,¬s.2.1[i].1<n) ?_ 0 ⟨Ii _,fun k _ h=>by omega⟩ rfl ?_
 ·rintro i ⟨g1,g2⟩
  by_cases hi:i<s.2.1.length
  ·have hi':(i:Int)<(s.2.1.length:Int):=by omega
   have hw:HD.wrap ((i:Int)+1)=((i+1:Nat):Int):=by rw [ao (by omega) (by omega)];omega
   by_cases hc:s.2.1[i].1<n
   ·left
    refine⟨i+1,by simp -implicitDefEqProofs [hi,hi',hc,hw],⟨by omega,fun k hk hlt=>?_⟩,by omega⟩
    by_cases hki:k=i
    ·subst hki;exact hc
    ·exact g2 k hk (by omega)
   ·right
    exact⟨.ext 0 [I n,sp s,I (i:Int)],by simp -implicitDefEqProofs [hi,hi',hc],rfl,i,rfl,g1,g2,fun _=>hc⟩
  ·right
   have hi':¬(i:Int)<(s.2.1.length:Int):=by omega
   exact⟨.ext 0 [I n,sp s,I (i:Int)],by simp -implicitDefEqProofs [hi,hi'],rfl,i,rfl,g1,g2,fun h=>absurd h hi⟩
 ·rintro o ⟨i,rfl,g1,g2,g3⟩
  refine⟨i,g1,g2,g3,?_⟩
  by_cases hi:i<s.2.1.length
  ·have hi':(i:Int)<(s.2.1.length:Int):=by omega
   simp -implicitDefEqProofs [hi,hi']
  ·have hi':¬(i:Int)<(s.2.1.length:Int):=by omega
   simp -implicitDefEqProofs [hi,hi']
theorem EQ {s:Sp} (h:aW s=true):(∀x∈s.2.1,fE s.1 x=true)∧∀(i j:Nat) (hj:j<s.2.1.length) (hij:i<j),s.2.1[i].1<s.2.1[j].1:=by
 simp only [aW,HI] at h;have ha:=h.1.1.1.1;have key:∀(m:Nat) (k:Nat),k+m=s.2.1.length→dr (pS s) k (s.2.1.drop k)=true→∀(j:Nat) (hj:j<s.2.1.length),k≤j→pS s j s.2.1[j]=true:=by
  intro m;induction m with
  | zero=>intro k hk _ j hj hkj;omega
  | succ m ih =>
   intro k hk hp j hj hkj;rw [Iq (by omega)] at hp;simp only [dr,HI] at hp;by_cases hkj':k=j
   ·subst hkj';exact hp.1
   ·exact ih (k+1) (by omega) hp.2 j hj (by omega)
 have hall:=key s.2.1.length 0 (by omega) (by rw [Ix];exact ha);refine⟨fun x hx=>?_,?_⟩
 ·obtain⟨j,hj,rfl⟩:=List.getElem_of_mem hx
  have:=hall j hj (Ii _);simp only [pS,HI] at this;exact this.1
 ·intro i j
  induction j with
  | zero=>intro _ h;omega
  | succ j ih =>
   intro hj hij;have h1:=hall (j+1) hj (Ii _);simp only [pS,HI,It,Bool.and_eq_false_iff,decide_eq_false_iff_not] at h1;have h2:s.2.1[j].1<s.2.1[j+1].1:=by
    rcases h1.2 with h2 | h2
    ·omega
    ·simp only [Nat.add_sub_cancel] at h2
     have e:(s.2.1.getD j (0,[],false,0)).1=s.2.1[j].1:=by simp [show j<s.2.1.length by omega]
     rw [e] at h2;omega
   by_cases hij':i=j
   ·subst hij';exact h2
   ·exact Int.lt_trans (ih (by omega) (by omega)) h2
def atF:List Fm→Int→Nat
 | [],_=>0
 | x::l,n=>if x.1<n then atF l n+1 else 0
def Cm (l:List Fm) (n:Int) (i:Nat):Prop:=i≤l.length∧(∀(k:Nat) (hk:k<l.length),k<i→l[k].1<n)∧∀hi:i<l.length,¬l[i].1<n
theorem tO:∀(l:List Fm) (n:Int),Cm l n (atF l n)
 | [],n=>⟨HC _,fun k hk=>by simp at hk,fun h=>by simp at h⟩
 | x::l,n=>by
  obtain⟨h1,h2,h3⟩:=tO l n;by_cases hx:x.1<n
  ·rw [atF,if_pos hx]
   refine⟨by simpa using h1,fun k hk hlt=>?_,fun hi=>?_⟩
   ·cases k with
    | zero=>exact hx
    | succ k =>
     rw [Ia];exact h2 k (by simpa using hk) (by omega)
   ·rw [Ia]
    exact h3 (by simpa using hi)
  ·rw [atF,if_neg hx]
   exact⟨Ii _,fun k _ h=>by omega,fun _=>hx⟩
theorem Cm.uniq {l:List Fm} {n:Int} {i j:Nat} (hi:Cm l n i) (hj:Cm l n j):i=j:=by
 rcases Nat.lt_trichotomy i j with h | h | h
 ·exact absurd (hj.2.1 i (Im h hj.1) h) (hi.2.2 _)
 ·exact h
 ·exact absurd (hi.2.1 j (Im h hi.1) h) (hj.2.2 _)
theorem xj (l:List Fm) (n:Int):atF l n≤l.length:=(tO l n).1
def eR (l:List Fm) (n:Int):Bool:=if h:atF l n<l.length then decide (l[atF l n].1=n) else false
theorem jt {l:List Fm} {n:Int} (h:eR l n=true):∃hi:atF l n<l.length,l[atF l n].1=n:=by
 unfold eR at h;split at h
 ·exact⟨_,of_decide_eq_true h⟩
 ·cases h
theorem sO (s:Sp) (n:Int) (h:cK s):dw [sp s,I n]=some (.ret [I (atF s.2.1 n:Int),B (eR s.2.1 n)] []):=by
 obtain⟨i,h1,h2,h3,e⟩:=BP s n h;have:i=atF s.2.1 n:=Cm.uniq ⟨h1,h2,h3⟩ (tO _ _);subst this;exact e
theorem mu (s:Sp) (n:Int) (h:cK s) (hok:aW s=true):gW [sp s,I n]=some (.ret [I (if eR s.2.1 n=true then(atF s.2.1 n:Int) else -1)] []):=by
 rw [jB s n h];congr 4
 obtain⟨_,hinc⟩:=EQ hok;have hat:=tO s.2.1 n;cases hf:dJ (idP n) 0 s.2.1 with
 | none =>
  rw [if_neg]
  ·rfl
  intro hh;obtain⟨hi,e⟩:=jt hh;have h2:=nI hf (atF s.2.1 n) hi;simp [idP,e] at h2
 | some j =>
  obtain⟨_,h2,h3,_⟩:=zu hf;simp only [Nat.sub_zero] at h2 h3;have e:=of_decide_eq_true h3;have hj:Cm s.2.1 n j:=⟨Nat.le_of_lt h2,fun k hk hlt=>by rw [←e];exact hinc k j h2 hlt,fun _=>by rw [e];exact Int.lt_irrefl _⟩
  have ej:=hj.uniq hat;subst ej;rw [if_pos]
  ·rfl
  ·rw [eR,dif_pos h2]
   exact decide_eq_true e
open Go Go.Proofs Go.V Go.RowKit
set_option maxRecDepth 100000
theorem oe {w w':World} {F F':Nat→Prop}:∀(l:List D) (us:List Value),(∀d∈l,d.isV=true)→bw w F l us→bw w' F' l us
 | [],_,_,h=>h
 | d::l,us,hd,h=>by
  obtain⟨v1,v2,rfl,h1,h2⟩:=aC.1 h;refine aC.2 ⟨v1,v2,rfl,?_,oe l v2 (fun e he=>hd e (by simp [he])) h2⟩
  have:=hd d (by simp);cases d with
  | v x =>
   simp only [RepC] at h1 ⊢;exact h1
  | agg m =>
   simp only [RepC] at h1 ⊢;exact⟨oG m v1 this h1.1,h1.2⟩
  | _=>simp [D.isV] at this
theorem jd {P:Program} (w:World) (base:Nat) (t ty e:TypeId) (i:TypeInfo) (size c:Nat) (ht:P.underlying t=some (.slice e)) (hi:P.info? e=some i)
  (v:Value) (n:Nat) (xs:List Value) (hown:w.ownsRow base e size v n xs) :
  (II #[t,t] ty #[v,.slice none 0 c]).run P w = .ok v w:=by
 rcases hown.2 with ⟨rfl,rfl⟩ | ⟨g,cap,cur,rfl,_,_,hnc,_⟩
 ·simp [II,run_underlying ht,sizeOf,typeInfo,hi,Jd,IW]
 ·simp [II,run_underlying ht,sizeOf,typeInfo,hi,Jd,IW,hnc,storeCells]
theorem dT {P:Program} (w:World) {ops:Array Oper} {rest:List Oper} {o:Oper} {a:Act} {Q:Exit→Act→World→Prop} (hgd:o.guard=none) (s x:Operand) (t:TypeId)
  (ho:o.op = .call {callee:=.builtin .append,args:=#[s,x],argTypes:=#[t,t]})
  (base:Nat) (e:TypeId) (i:TypeInfo) (z:Value) (size bytes:Nat) (ht:P.underlying t=some (.slice e)) (hi:P.info? e=some i) (hz:i.zero=some z)
  (hsize:i.size=size) (hby:i.bytes=bytes) (hzs:z.cells.size=size) (hsz:0<size)
  (v:Value) (n:Nat) (xs:List Value) (hs:a.eval s=v) (hown:w.ownsRow base e size v n xs)
  (A:Option Addr) (m c:Nat) (news:List Value) (hx:a.eval x = .slice A m c) (hl:news.length=m*size) (hA:m≠0→∃g o,A=some ⟨g,o,none⟩∧∀j u,news[j]?=some u→w.cell? ⟨g,o+j,none⟩=some u) (h1:∀u∈news,u.oneCell'=true)
  (h63:n+m≤maxLen) (hbytes:(n+m)*bytes≤140737488355328) (hbase:base≤w.heap.size)
  (h:∀v' w',w'.ownsRow base e size v' (n+m) (xs++news)→w.grownBy w' v.ownBlock→(v'.ownBlock=v.ownBlock∨v'.ownBlock=some w.heap.size)→wpList P ops Q rest (a.put o.dst v') w') :
  wpList P ops Q (o::rest) a w:=by
 cases A with
 | some ad =>
  refine wpList_append_own_at w hgd s x t ho base e i z size bytes ht hi hz hsize hby hzs hsz v n xs hs hown ad m c news hx hl (fun j u hj=>?_) h1 h63 hbytes hbase fun v' w' h2 h3 _ h5=>h v' w' h2 h3 h5
  have hm:m≠0:=by
   rintro rfl;have:news=[]:=HN (by simpa using hl);subst this;simp at hj
  obtain⟨g,o,e1,h2⟩:=hA hm;cases e1;rw [show(⟨g,o,none⟩:Addr).add j=⟨g,o+j,none⟩ by cases j<;>simp [Addr.add]];exact h2 j u hj
 | none =>
  have hm:m=0:=Classical.byContradiction fun hm=>by
   obtain⟨_,_,e1,_⟩:=hA hm;cases e1
  subst hm;have hnews:news=[]:=HN (by simpa using hl);subst hnews;refine wpList_plain hgd fun K hK'=>?_
  have hrun:=jd (P:=P) w base t o.type e i size c ht hi v n xs hown;unfold Oper.wp;simp [execOp,ho,resolve,invoke,builtin,hs,hx,hrun,Result.andThen];exact hK' _ _ (h v w (by simpa using hown) (World.grownBy.refl _ _) (.inl rfl))
theorem od {w w0:World} {base:Nat} {e:TypeId} {z n:Nat} {v:Value} {us:List Value} {l:List D} {F:Nat→Prop} (h:w.ownsRow base e z v n us) (hn:l.length=n) (hw:∀d∈l,d.width=z) (hr:bw w0 F l us) (hf:∀d∈l,d.isV=true) :
  bf w (fun _=>False) (aA v) z (.arr z l) v:=by
 subst hn;refine⟨l,rfl,hw,?_⟩
 obtain⟨h1,⟨rfl,h2⟩ | ⟨g,cap,cur,rfl,h3,h4,h5,h6,h7,h8⟩⟩:=h
 ·exact .inl ⟨rfl,HN h2⟩
 ·refine .inr ⟨g,0,cap,us,cur,e,rfl,h5,h4,by omega,oe l us hf hr,fun i u hi=>?_,rfl⟩
  have hlt:i<l.length*z:=by rw [←h1];exact(Ih.1 hi).1
  rw [←h8,List.getElem?_take,if_pos hlt] at hi;rw [IF];simpa using hi
theorem uf {w:World} {base:Nat} {e:TypeId} {z n:Nat} {v:Value} {us:List Value} (h:w.ownsRow base e z v n us):∀b,aA v b→base≤b∧b<w.heap.size:=by
 intro b hb;obtain⟨_,⟨rfl,_⟩ | ⟨g,cap,cur,rfl,h3,h4,_⟩⟩:=h
 ·cases hb
 ·have hb':g=b:=HG hb
  subst hb';exact⟨h3,(HS.1 h4).1⟩
theorem zA {w w':World} {base:Nat} {e:TypeId} {z n:Nat} {v:Value} {us:List Value} (h:w.ownsRow base e z v n us) (hk:∀b,aA v b→w'.heap[b]?=w.heap[b]?):w'.ownsRow base e z v n us:=by
 obtain⟨h1,h2 | ⟨g,cap,cur,rfl,h3,h4,h5⟩⟩:=h
 ·exact⟨h1,.inl h2⟩
 ·exact⟨h1,.inr ⟨g,cap,cur,rfl,h3,(hk g rfl).trans h4,h5⟩⟩
theorem am {w:World} {base:Nat} {e:TypeId} {z n:Nat} {v:Value} {us:List Value} (h:w.ownsRow base e z v n us):∃A m c,v = .slice A m c:=by
 obtain⟨_,⟨rfl,_⟩ | ⟨g,cap,cur,rfl,_⟩⟩:=h
 ·exact⟨_,_,_,rfl⟩
 ·exact⟨_,_,_,rfl⟩
theorem bR {w:World} {B g:Nat} {e:TypeId} {z:Nat} (h:w.heap[g]?=some (.cells #[] e (0,0))) (hg:B≤g):w.ownsRow B e z (.slice (some ⟨g,0,none⟩) 0 0) 0 [] :=
 ⟨by simp,.inr ⟨g,0,#[],rfl,hg,h,HC _,by unfold maxLen;omega,by simp,by simp⟩⟩
theorem jV:∀(l m:List Fm) (ys zs:List Value),ys.length=l.length→aV (l++m) (ys++zs)=aV l ys++aV m zs
 | [],_,[],_,_=>rfl
 | x::l,m,y::ys,zs,h=>by
  simp only [IE,aV,jV l m ys zs (by simpa using h),IB]
 | [],_,_::_,_,h=>by simp at h
 | _::_,_,[],_,h=>by simp at h
theorem ck:∀(l:List Fm) (ys:List Value),(∀y∈ys,∃A n c,y = .slice A n c)→∀u∈aV l ys,u.oneCell'=true
 | x::l,y::ys,h,u,hu=>by
  simp only [aV,dn,IE,IY,List.mem_cons] at hu;rcases hu with rfl | rfl | rfl | rfl | hu
  ·rfl
  ·obtain⟨A,n,c,rfl⟩:=h u (by simp)
   rfl
  ·rfl
  ·rfl
  ·exact ck l ys (fun y hy=>h y (by simp [hy])) u hu
 | [],_,_,u,hu=>by simp [aV] at hu
 | _::_,[],_,u,hu=>by simp [aV] at hu
theorem bE {w w':World} {B:Nat} {V V':Value} {ys zs:List Value} {l m:List Fm} (h:FmsAt w B V ys l) (hB:B≤w.heap.size)
  (hown:w'.ownsRow B 75 4 V' (l.length+m.length) (aV l ys++aV m zs)) (hg:w.grownBy w' V.ownBlock) (ha:V'.ownBlock=V.ownBlock∨V'.ownBlock=some w.heap.size)
  (hlen:zs.length=m.length) (hrow:∀(i:Nat) (x:Fm) (y:Value),m[i]?=some x→zs[i]?=some y→bf w (fun _=>False) (aA y) 1 (txs x.2.1) y)
  (hblk:∀(i:Nat) (y:Value) (b:Nat),zs[i]?=some y→aA y b→B≤b∧b<w.heap.size∧¬FmS V ys b)
  (hdis:∀(i j:Nat) (y z:Value),i≠j→zs[i]?=some y→zs[j]?=some z→y.ownBlock=none∨y.ownBlock≠z.ownBlock):FmsAt w' B V' (ys++zs) (l++m):=by
 have hold:=h.lt;have get:∀{j:Nat} {y:Value},(ys++zs)[j]?=some y→(j<ys.length∧ys[j]?=some y)∨(ys.length≤j∧zs[j - ys.length]?=some y):=fun {j y} hj=>by
  by_cases e:j<ys.length
  ·rw [ID e] at hj
   exact .inl ⟨e,hj⟩
  ·rw [Ip (by omega)] at hj
   exact .inr ⟨by omega,hj⟩
 have k1:∀{j:Nat} {y:Value},ys[j]?=some y→∀b,aA y b→w'.heap[b]?=w.heap[b]?:=fun {j y} hj b hb=>hg.block b (hold b (.inr ⟨y,HU hj,hb⟩)).2 fun e=>(h.blk j y b hj hb).2 e.symm
 have k2:∀{j:Nat} {y:Value},zs[j]?=some y→∀b,aA y b→w'.heap[b]?=w.heap[b]?:=fun {j y} hj b hb=>by
  obtain⟨_,h2,h3⟩:=hblk j y b hj hb;exact hg.block b h2 fun e=>h3 (.inl e.symm)
 refine⟨by simp [h.len,hlen],?_,fun j x y hj hyj=>?_,fun j y b hyj hb=>?_,fun i j y z hij hi hj=>?_⟩
 ·rw [Iz,jV _ _ _ _ h.len]
  exact hown
 ·rcases get hyj with ⟨e,hy⟩ | ⟨e,hy⟩
  ·rw [ID (by rw [←h.len];exact e)] at hj
   exact aJ (h.row j x y hj hy) (k1 hy)
  ·rw [Ip (by rw [←h.len];exact e),←h.len] at hj
   exact aJ (hrow _ x y hj hy) (k2 hy)
 ·rcases get hyj with ⟨e,hy⟩ | ⟨e,hy⟩
  ·obtain⟨h2,h3⟩:=h.blk j y b hy hb
   have h4:=(hold b (.inr ⟨y,HU hy,hb⟩)).2;refine⟨h2,fun e1=>?_⟩
   rcases ha with ha | ha
   ·exact h3 (ha.symm.trans e1)
   ·rw [ha] at e1
    have:=HG e1;omega
  ·obtain⟨h2,h3,h4⟩:=hblk _ y b hy hb
   refine⟨h2,fun e1=>?_⟩
   rcases ha with ha | ha
   ·exact h4 (.inl (ha.symm.trans e1))
   ·rw [ha] at e1
    have:=HG e1;omega
 ·have sep:∀{i j:Nat} {y z:Value},ys[i]?=some y→zs[j]?=some z→∀b,aA y b→¬aA z b:=fun {i j y z} hy hz b hb hb2=>(hblk j z b hz hb2).2.2 (.inr ⟨y,HU hy,hb⟩)
  rcases get hi with ⟨e1,hy⟩ | ⟨e1,hy⟩<;>rcases get hj with ⟨e2,hz⟩ | ⟨e2,hz⟩
  ·exact h.dis i j y z hij hy hz
  ·cases hb:y.ownBlock with
   | none=>exact .inl rfl
   | some b=>exact .inr fun e=>sep hy hz b hb e.symm
  ·cases hb:y.ownBlock with
   | none=>exact .inl rfl
   | some b=>exact .inr fun e=>sep hz hy b e.symm hb
  ·exact hdis _ _ y z (by omega) hy hz
theorem cf {w w':World} {B:Nat} {V V':Value} {ys:List Value} {l:List Fm} {x:Fm} {y:Value} (h:FmsAt w B V ys l) (hB:B≤w.heap.size)
  (hown:w'.ownsRow B 75 4 V' (l.length+1) (aV l ys++dn x y)) (hg:w.grownBy w' V.ownBlock) (ha:V'.ownBlock=V.ownBlock∨V'.ownBlock=some w.heap.size)
  (hy:bf w (fun _=>False) (aA y) 1 (txs x.2.1) y) (hb:∀b,aA y b→B≤b∧¬FmS V ys b):FmsAt w' B V' (ys++[y]) (l++[x]):=by
 refine bE h hB (m:=[x]) (zs:=[y]) (by simpa [aV] using hown) hg ha rfl (fun i x' y' hx hy'=>?_) (fun i y' b hy' hb'=>?_) fun i j y' z hij hi hj=>?_
 ·match i,hx,hy' with
  | 0,hx,hy' =>
   cases hx;cases hy';exact hy
 ·match i,hy' with
  | 0,hy' =>
   cases hy';exact⟨(hb b hb').1,cd hy b hb',(hb b hb').2⟩
 ·have h1:=(Ih.1 hi).1
  have h2:=(Ih.1 hj).1;simp at h1 h2;omega
theorem cg {w:World} {g:Nat} {x0 x1 x2 x3:Value} {t:TypeId} (h:w.heap[g]?=some (.cells #[x0,x1,x2,x3] t (0,0))):∀(j:Nat) (u:Value),[x0,x1,x2,x3][j]?=some u→w.cell? ⟨g,0+j,none⟩=some u:=by
 obtain⟨h0,h1,h2,h3⟩:=aa h;intro j u hj;rw [IF]
 match j,hj with
 | 0,hj=>cases hj;exact h0
 | 1,hj=>cases hj;exact h1
 | 2,hj=>cases hj;exact h2
 | 3,hj=>cases hj;exact h3
theorem dI {w:World} {B g:Nat} (h:w.heap[g]?=some (.cells #[] 75 (0,0))) (hg:B≤g):FmsAt w B (.slice (some ⟨g,0,none⟩) 0 0) [] [] :=
 ⟨rfl,bR h hg,fun i x y hx=>by simp at hx,fun i y b hy=>by simp at hy,fun i j y z _ hi=>by simp at hi⟩
theorem qs (w:World) (B:Nat):FmsAt w B (.slice none 0 0) [] [] :=
 ⟨rfl,⟨rfl,.inl ⟨rfl,rfl⟩⟩,fun i x y hx=>by simp at hx,fun i y b hy=>by simp at hy,fun i j y z _ hi=>by simp at hi⟩
theorem lQ {w:World} {F:Nat→Prop}:∀(l:List D) (us:List Value),(∀d∈l,d.single=true∨∃m,d = .agg m)→bw w F l us→∀u∈us,u.oneCell'=true
 | [],us,_,h,u,hu=>by
  rw [aP.1 h] at hu;simp at hu
 | d::l,us,hd,h,u,hu=>by
  obtain⟨v1,v2,rfl,h1,h2⟩:=aC.1 h;rcases Ja.1 hu with hu | hu
  ·rcases hd d (by simp) with hs | ⟨m,rfl⟩
   ·obtain⟨y,rfl,_,h3⟩:=hZ d v1 hs h1
    rw [List.mem_singleton.1 hu];exact h3
   ·simp only [RepC] at h1
    exact((bX m v1 h1.2 h1.1).2.1 u hu).1
  ·exact lQ l v2 (fun e he=>hd e (by simp [he])) h2 u hu
theorem oY {w:World} {F:Nat→Prop} {z:Nat} {l:List D} {A:Option Addr} {n c:Nat} (h:aQ w F (.arr z l) (.slice A n c)) (hk:∀d∈l,d.single=true∨∃m,d = .agg m) :
  ∃us,n=l.length∧us.length=n*z∧bw w F l us∧(∀d∈l,d.width=z)∧(∀u∈us,u.oneCell'=true)∧(n≠0→∃g o,A=some ⟨g,o,none⟩∧F g∧∀(j:Nat) (u:Value),us[j]?=some u→w.cell? ⟨g,o+j,none⟩=some u):=by
 obtain⟨A',c',us,e,hc,hr,hw,hA⟩:=h;simp only [IZ,and_true,Value.slice.injEq] at e;obtain⟨rfl,rfl,rfl⟩:=e;refine⟨us,rfl,cD l us hr hw,hr,hw,lQ l us hk hr,fun h0=>?_⟩
 obtain⟨b,o,e,hF,hcell⟩:=hA (fun e=>h0 (by rw [e];rfl));exact⟨b,o,e,hF,fun j u hj=>hcell j u hj⟩
def ut (w:World) (B:Nat) (v:Value) (s:Sp):Prop:=∃Vb Vf ys,ShopAt w B v Vb Vf ys s
def Hy (w:World) (B:Nat) (V:Value) (l:List Fm):Prop:=∃ys,FmsAt w B V ys l
set_option maxRecDepth 100000
def Hid (p:Prop):Prop:=p
theorem Hid.out {p:Prop} (h:Hid p):p:=h
theorem aD {w':World} {g:Nat} {y0 y1 y2 y3:Value} {t:TypeId} (x0 x1 x2 x3:Value) (h:w'.heap[g]?=some (.cells #[y0,y1,y2,y3] t (0,0))):((((w'.setCell ⟨g,0,none⟩ x0).setCell ⟨g,1,none⟩ x1).setCell ⟨g,2,none⟩ x2).setCell ⟨g,3,none⟩ x3).heap[g]?=some (.cells #[x0,x1,x2,x3] t (0,0)):=by
 rw [heap_setCell_same _ _ _ _ _ _ (heap_setCell_same _ _ _ _ _ _ (heap_setCell_same _ _ _ _ _ _ (heap_setCell_same _ _ _ _ _ _ h)))];rfl
theorem Ep {w':World} {b g:Nat} (x0 x1 x2 x3:Value) (hg:g≠b):((((w'.setCell ⟨g,0,none⟩ x0).setCell ⟨g,1,none⟩ x1).setCell ⟨g,2,none⟩ x2).setCell ⟨g,3,none⟩ x3).heap[b]?=w'.heap[b]?:=by
 rw [heap_setCell_other _ _ _ _ (by simp;omega),heap_setCell_other _ _ _ _ (by simp;omega),heap_setCell_other _ _ _ _ (by simp;omega),heap_setCell_other _ _ _ _ (by simp;omega)]
theorem bd {w w':World} {B g:Nat} (x0 x1 x2 x3:Value) (h:Below B w w') (hg:B≤g):Below B w ((((w'.setCell ⟨g,0,none⟩ x0).setCell ⟨g,1,none⟩ x1).setCell ⟨g,2,none⟩ x2).setCell ⟨g,3,none⟩ x3) :=
 (((h.setCell hg _).setCell hg _).setCell hg _).setCell hg _
theorem ShopAt.set4 {w':World} {B g:Nat} {v Vb Vf:Value} {ys:List Value} {s:Sp} (x0 x1 x2 x3:Value) (h:ShopAt w' B v Vb Vf ys s) (hg:∀b,ShS Vb Vf ys b→g≠b):ShopAt ((((w'.setCell ⟨g,0,none⟩ x0).setCell ⟨g,1,none⟩ x1).setCell ⟨g,2,none⟩ x2).setCell ⟨g,3,none⟩ x3) B v Vb Vf ys s :=
 h.keep fun b hb=>Ep _ _ _ _ (hg b hb)
theorem aG {w:World} {b:Nat} {cs:Array Value} {t:TypeId} (h:w.heap[b]?=some (.cells cs t (0,0))):w.frozen? ⟨b,0,none⟩=false∧w.frozen? ⟨b,1,none⟩=false∧w.frozen? ⟨b,2,none⟩=false∧w.frozen? ⟨b,3,none⟩=false :=
 ⟨HA h 0,HA h 1,HA h 2,HA h 3⟩
theorem yB:(Try.prog.info? 112).map (fun i=>(i.zero,i.size,i.bytes))=some (some (.agg #[.string ⟨#[]⟩,.int .i64 0,.int .i64 0,.int .i64 0]),4,40):=by kernel_rfl
theorem Ck:(Try.prog.info? 9).map (fun i=>(i.zero,i.size,i.bytes))=some (some (.string ⟨#[]⟩),1,16):=by kernel_rfl
theorem BJ {l:List Bx}:∀d∈l.map bx,d.single=true∨∃m,d = .agg m:=fun d hd=>by
 obtain⟨x,_,rfl⟩:=Ib.1 hd;exact .inr ⟨_,rfl⟩
theorem DG {l:List Bx}:∀d∈l.map bx,d.isV=true:=fun d hd=>by
 obtain⟨x,_,rfl⟩:=Ib.1 hd;rfl
theorem FM {l:List ByteArray}:∀d∈l.map T,d.single=true∨∃m,d = .agg m:=fun d hd=>by
 obtain⟨x,_,rfl⟩:=Ib.1 hd;exact .inl rfl
theorem EN {l:List ByteArray}:∀d∈l.map T,d.isV=true:=fun d hd=>by
 obtain⟨x,_,rfl⟩:=Ib.1 hd;rfl
theorem BB {l:List Fm}:∀d∈l.map fm,d.single=true∨∃m,d = .agg m:=fun d hd=>by
 obtain⟨x,_,rfl⟩:=Ib.1 hd;exact .inr ⟨_,rfl⟩
set_option maxHeartbeats 4000000 in
set_option maxRecDepth 1000000 in
theorem sQ (s:Sp) (hs:cK s) (v0:Value) (w:World) (F:Nat→Prop) (hr:aQ w F (sp s) v0) (hF:∀b,F b→b<w.heap.size) :
  Calls Try.prog 50 #[v0] w fun e w'=>∃v,e = .returned v∧ut w' w.heap.size v s∧Below w.heap.size w w':=by
 obtain⟨A,n,c,A',n',c',rfl,hb,hf⟩:=eG hr;obtain⟨i0,hi0,hz0,hz1,hz2⟩:=info_parts yB;obtain⟨us,hn,hul,hus,huw,hu1,huA⟩:=oY hb BJ;obtain⟨us2,hn2,hul2,hus2,_,_,huA2⟩:=oY hf BB;rw [HE] at hn hn2;subst hn hn2;have hbl:=hs.1.1
 go_enter Try.func50,Try.ntmps50
 have hb3:∀a b c,Below w.heap.size w (((w.alloc a).alloc b).alloc c):=fun a b c=>(((IC _ w).alloc (HC _) _).alloc (by simp) _).alloc (by simp;omega) _
 have hA3:∀a b c,(s.1.length≠0→∃g o,A=some ⟨g,o,none⟩∧∀(j:Nat) (u:Value),us[j]?=some u→(((w.alloc a).alloc b).alloc c).cell? ⟨g,o+j,none⟩=some u):=fun a b c h0=>by
  obtain⟨g,o,e,hFg,h1⟩:=huA h0;exact⟨g,o,e,fun j u hj=>(Io (w:=w) ((hb3 a b c).block g (hF g hFg))).trans (h1 j u hj)⟩
 go_wp2_with (at_builtin;refine dT _ rfl _ _ 30 rfl (w.heap.size+2) 112 i0 (.agg #[.string ⟨#[]⟩,.int .i64 0,.int .i64 0,.int .i64 0]) 4 40 Try.underlying30 hi0 hz0 hz1 hz2 rfl (by decide) (.slice (some ⟨w.heap.size+1+1,0,none⟩) 0 0) 0 [] rfl (bR (ac _ (by simp)) (by omega)) A s.1.length c us (by simp [go_sem]) hul (hA3 _ _ _) hu1 (by unfold maxLen;omega) (by omega) (by simp) ?_)
 intro v1 w4 hown1 hg1 hat1;have own1:bf w4 (fun _=>False) (aA v1) 4 (bxs s.1) v1:=od hown1 (by simp) huw hus DG;have hv1:=uf hown1;obtain⟨A1,n1,c1,rfl⟩:=am hown1;have H1:w4.heap[w.heap.size]?=some (.cells #[.slice A s.1.length c,.slice A' s.2.1.length c',.int .i64 s.2.2.1,.int .i64 s.2.2.2] 33 (0,0)):=(hg1.block _ (by simp;omega) (by simp [IL];omega)).trans (ah _ (ah _ (ac _ rfl)));have H2:w4.heap[w.heap.size+1]?=some (.cells #[.slice none 0 0,.slice none 0 0,.int .i64 0,.int .i64 0] 33 (0,0)):=(hg1.block _ (by simp) (by simp [IL])).trans (ah _ (ac _ (by simp)));have B4:Below w.heap.size w w4:=(hb3 _ _ _).grown hg1 (by simp;omega) (fun k hk=>by have:w.heap.size+1+1=k:=HG hk;omega);have S4:w.heap.size+1+1<w4.heap.size:=by have:=hg1.size;simp at this;omega
 have f10:=HA H1 0;have c10:=HB H1 0;simp only [Ic,HW,HX] at c10;have H1':=ah (.cells #[] 75) (heap_setCell_same _ _ 0 _ _ (.slice A1 n1 c1) H1);have H2':=ah (.cells #[] 75) ((heap_setCell_other w4 ⟨w.heap.size,0,none⟩ (w.heap.size+1) (.slice A1 n1 c1) (by simp)).trans H2);simp only [IA,Ir] at H1';have own5:=aJ (w':=(w4.setCell ⟨w.heap.size,0,none⟩ (.slice A1 n1 c1)).alloc (.cells #[] 75)) own1 fun b hb=>by
  have:=hv1 b hb;rw [fi _ (by simp [HQ];omega),heap_setCell_other _ _ _ _ (by simp;omega)]
 have B5:Below w.heap.size w ((w4.setCell ⟨w.heap.size,0,none⟩ (.slice A1 n1 c1)).alloc (.cells #[] 75)):=(B4.setCell (by simp) _).alloc (by simp [HQ];omega) _;have S5:((w4.setCell ⟨w.heap.size,0,none⟩ (.slice A1 n1 c1)).alloc (.cells #[] 75)).heap.size=w4.heap.size+1:=by simp [HQ]
 have HF:FmsAt ((w4.setCell ⟨w.heap.size,0,none⟩ (.slice A1 n1 c1)).alloc (.cells #[] 75)) w4.heap.size (.slice (some ⟨w4.heap.size,0,none⟩) 0 0) [] []:=dI (ac _ (by simp [HQ])) (HC _);have c11:=(aa H1').2.1
 go_wp2
 generalize (w4.setCell ⟨w.heap.size,0,none⟩ (.slice A1 n1 c1)).alloc (.cells #[] 75)=w5 at *;clear H1 H2 f10 c10 hg1 hat1 hown1 own1 B4 hA3 huA hus hul hu1 huw hb hb3;obtain⟨i1,hi1,hy0,hy1,hy2⟩:=info_parts Ck;obtain⟨i2,hi2,hx0,hx1,hx2⟩:=info_parts fy;have hln:=hs.2.1
 go_loopw [3,15] (fun vf vi wr=>∃i:Nat,vi = .int .i64 i∧i≤s.2.1.length∧Hy wr w4.heap.size vf (s.2.1.take i)∧Below w4.heap.size w5 wr) (fun _ vi _=>s.2.1.length - (intOf vi).toNat)
 case atStart =>
  exact⟨0,rfl,Ii _,⟨[],by simpa using HF⟩,IC _ _⟩
 case round =>
  obtain⟨i,rfl,hin,⟨ys,hFr⟩,hBr⟩:=hrel;have hsz:=hBr.size;by_cases hp:i<s.2.1.length
  ·have hpi:(i:Int)<(s.2.1.length:Int):=by omega
   have hBw:Below w.heap.size w wr:=B5.trans (hBr.mono (by omega));obtain⟨b,o,rfl,hFb,hcell⟩:=huA2 (by omega);obtain⟨Ax,nx,cx,u0,u1,u2,u3,hry⟩:=tL hus2 hp;have hcb:∀{k:Nat} {u:Value},us2[k]?=some u→wr.cell? ⟨b,o+k,none⟩=some u:=fun {k u} hu=>(Io (w:=w) (hBw.block b (hF b hFb))).trans (hcell k u hu)
   have k0:=hcb u0;have k1:=hcb u1;have k2:=hcb u2;have k3:=hcb u3;simp only [←IM] at k1 k2 k3;have hxl:=hs.2.2 s.2.1[i] (HO hp);have htk:=Ij hp;generalize s.2.1[i]=x at *;obtain⟨ux,hnx,hxl2,hux,hxw,hx1c,hxA⟩:=oY hry FM;rw [HE] at hnx;subst hnx;have hxA':∀p q,(x.2.1.length≠0→∃g o,Ax=some ⟨g,o,none⟩∧∀(j:Nat) (u:Value),ux[j]?=some u→((wr.alloc p).alloc q).cell? ⟨g,o+j,none⟩=some u):=fun p q h0=>by
    obtain⟨g,o,e,hFg,h1⟩:=hxA h0;exact⟨g,o,e,fun j u hj=>(Io (w:=w) (((hBw.alloc (by omega) _).alloc (by simp;omega) _).block g (hF g hFg))).trans (h1 j u hj)⟩
   obtain⟨Vg,Vn,Vc,rfl⟩:=am hFr.own
   go_wp2_with (at_builtin;refine dT _ rfl _ _ 73 rfl (wr.heap.size+1) 9 i1 (.string ⟨#[]⟩) 1 16 Try.underlying73 hi1 hy0 hy1 hy2 rfl (by decide) (.slice (some ⟨wr.heap.size+1,0,none⟩) 0 0) 0 [] rfl (bR (ac _ (by simp)) (by omega)) Ax x.2.1.length cx ux (by simp [go_sem]) hxl2 (hxA' _ _) hx1c (by unfold maxLen;omega) (by omega) (by simp) ?_)
   intro v2 w6 hown2 hg2 hat2;have own2:bf w6 (fun _=>False) (aA v2) 1 (txs x.2.1) v2:=od hown2 (by simp) hxw hux EN;have hv2:=uf hown2;obtain⟨A2,n2,c2,rfl⟩:=am hown2;have G1:w6.heap[wr.heap.size]?=some (.cells #[.int .i64 x.1,.slice Ax x.2.1.length cx,.bool x.2.2.1,.int .i64 x.2.2.2] 75 (0,0)):=(hg2.block _ (by simp;omega) (by simp [IL])).trans (ah _ (ac _ rfl));have b6:Below wr.heap.size wr w6:=(((IC _ wr).alloc (HC _) _).alloc (by simp) _).grown hg2 (by simp;omega) (fun k hk=>by have:wr.heap.size+1=k:=HG hk;omega);have S6:wr.heap.size+1<w6.heap.size:=by have:=hg2.size;simp at this;omega
   have fg1:=HA G1 1;have cg1:=(aa G1).2.1;have G2:(w6.setCell ⟨wr.heap.size,1,none⟩ (.slice A2 n2 c2)).heap[wr.heap.size]?=some (.cells #[.int .i64 x.1,.slice A2 n2 c2,.bool x.2.2.1,.int .i64 x.2.2.2] 75 (0,0)):=heap_setCell_same _ _ 1 _ _ (.slice A2 n2 c2) G1;obtain⟨e0,e1,e2,e3⟩:=aa G2;have b8:Below wr.heap.size wr ((w6.setCell ⟨wr.heap.size,1,none⟩ (.slice A2 n2 c2)).alloc (.cells #[.int .i64 x.1,.slice A2 n2 c2,.bool x.2.2.1,.int .i64 x.2.2.2] 75)):=(b6.setCell (HC _) _).alloc (by simp [HQ];omega) _;have hFlt:=hFr.lt;have hF8:=hFr.keep (w':=(w6.setCell ⟨wr.heap.size,1,none⟩ (.slice A2 n2 c2)).alloc (.cells #[.int .i64 x.1,.slice A2 n2 c2,.bool x.2.2.1,.int .i64 x.2.2.2] 75)) fun b hb=>b8.block b (hFlt b hb).2
   have own8:=aJ (w':=(w6.setCell ⟨wr.heap.size,1,none⟩ (.slice A2 n2 c2)).alloc (.cells #[.int .i64 x.1,.slice A2 n2 c2,.bool x.2.2.1,.int .i64 x.2.2.2] 75)) own2 fun b hb=>by
    have:=hv2 b hb;rw [fi _ (by simp [HQ];omega),heap_setCell_other _ _ _ _ (by simp;omega)]
   have hl8:(s.2.1.take i).length=i:=by rw [In];omega
   have S8:w4.heap.size≤((w6.setCell ⟨wr.heap.size,1,none⟩ (.slice A2 n2 c2)).alloc (.cells #[.int .i64 x.1,.slice A2 n2 c2,.bool x.2.2.1,.int .i64 x.2.2.2] 75)).heap.size:=by simp [HQ];omega
   go_wp2_with (at_builtin;refine dT _ rfl _ _ 31 rfl w4.heap.size 75 i2 (.agg #[.int .i64 0,.slice none 0 0,.bool false,.int .i64 0]) 4 48 Try.underlying31 hi2 hx0 hx1 hx2 rfl (by decide) (.slice Vg Vn Vc) _ _ rfl hF8.own (some ⟨w6.heap.size,0,none⟩) 1 1 [.int .i64 x.1,.slice A2 n2 c2,.bool x.2.2.1,.int .i64 x.2.2.2] (by simp [go_sem]) rfl (fun _=>⟨_,_,rfl,cg (ac _ (by simp [HQ]))⟩) (by intro u hu;simp at hu;rcases hu with rfl | rfl | rfl | rfl<;>rfl) (by unfold maxLen;omega) (by omega) S8 ?_)
   intro v3 w9 hown9 hg9 hat9;have hF9:=cf (x:=x) (y:=.slice A2 n2 c2) hF8 S8 (by rw [hl8];exact hown9) hg9 (by simpa [HQ] using hat9) own8 (fun b hb=>⟨by have:=(hv2 b hb).1;omega,fun h=>by have:=(hv2 b hb).1;have:=(hFlt b h).2;omega⟩);rw [←htk] at hF9;have hB9:Below w4.heap.size w5 w9:=(hBr.trans (b8.mono (by omega))).grown hg9 S8 (fun k hk=>(hFlt k (.inl hk)).1)
   go_wp2
   refine⟨⟨i+1,congrArg (Value.int .i64) (by omega),by omega,⟨_,hF9⟩,hB9⟩,?_⟩
   show s.2.1.length - ((i:Int)+1).toNat<s.2.1.length - (i:Int).toNat
   omega
  ·have hpi:¬(i:Int)<(s.2.1.length:Int):=by omega
   have hie:i=s.2.1.length:=by omega
   subst hie;rw [IG] at hFr;have hFlt:=hFr.lt;obtain⟨Vg,Vn,Vc,rfl⟩:=am hFr.own;have hBw:Below w.heap.size w wr:=B5.trans (hBr.mono (by omega));have K1:=(hBr.block _ (by omega)).trans H1';have K2:=(hBr.block _ (by omega)).trans H2';have own9:=aJ (w':=wr) own5 fun b hb=>hBr.block b (hv1 b hb).2
   have f1:=HA K1 1;have ck1:=(aa K1).2.1;have K3:(wr.setCell ⟨w.heap.size,1,none⟩ (.slice Vg Vn Vc)).heap[w.heap.size]?=some (.cells #[.slice A1 n1 c1,.slice Vg Vn Vc,.int .i64 s.2.2.1,.int .i64 s.2.2.2] 33 (0,0)):=heap_setCell_same _ _ 1 _ _ (.slice Vg Vn Vc) K1;have K4:(wr.setCell ⟨w.heap.size,1,none⟩ (.slice Vg Vn Vc)).heap[w.heap.size+1]?=some (.cells #[.slice none 0 0,.slice none 0 0,.int .i64 0,.int .i64 0] 33 (0,0)):=(heap_setCell_other _ _ _ _ (by simp)).trans K2;obtain⟨d0,d1,d2,d3⟩:=aa K3;obtain⟨e0,e1,e2,e3⟩:=aa K4;have g0:=HA K4 0;have g1:=HA K4 1;have g2:=HA K4 2;have g3:=HA K4 3;have hS:ShopAt wr w.heap.size (.agg #[.slice A1 n1 c1,.slice Vg Vn Vc,.int .i64 s.2.2.1,.int .i64 s.2.2.2]) (.slice A1 n1 c1) (.slice Vg Vn Vc) ys s :=
    ⟨rfl,own9,fun b hb=>by have:=(hv1 b hb).1;omega,hFr.base (by omega),fun b hb h=>by have:=(hv1 b hb).2;have:=(hFlt b h).1;omega⟩
   have hL:∀b,ShS (.slice A1 n1 c1) (.slice Vg Vn Vc) ys b→w.heap.size+1<b:=fun b hb=>by
    rcases hb with hb | hb
    ·have:=(hv1 b hb).1
     omega
    ·have:=(hFlt b hb).1
     omega
   have hS1:=hS.keep (w':=wr.setCell ⟨w.heap.size,1,none⟩ (.slice Vg Vn Vc)) fun b hb=>heap_setCell_other _ _ _ _ (by have:=hL b hb;simp;omega)
   have hB1:Below w.heap.size w (wr.setCell ⟨w.heap.size,1,none⟩ (.slice Vg Vn Vc)):=hBw.setCell (by simp) _
   go_wp2
   generalize wr.setCell ⟨w.heap.size,1,none⟩ (.slice Vg Vn Vc)=W7 at *;have H11:((((W7.setCell ⟨w.heap.size+1,0,none⟩ (.slice A1 n1 c1)).setCell ⟨w.heap.size+1,1,none⟩ (.slice Vg Vn Vc)).setCell ⟨w.heap.size+1,2,none⟩ (.int .i64 s.2.2.1)).setCell ⟨w.heap.size+1,3,none⟩ (.int .i64 s.2.2.2)).heap[w.heap.size+1]?=some (.cells #[.slice A1 n1 c1,.slice Vg Vn Vc,.int .i64 s.2.2.1,.int .i64 s.2.2.2] 33 (0,0)):=by
    rw [heap_setCell_same _ _ _ _ _ _ (heap_setCell_same _ _ _ _ _ _ (heap_setCell_same _ _ _ _ _ _ (heap_setCell_same _ _ _ _ _ _ K4)))];rfl
   obtain⟨d0,d1,d2,d3⟩:=aa H11;refine bodyPost_ret (by simp [results,Try.results50,go_sem,d0,d1,d2,d3];try rfl) rfl ?_
   refine⟨_,rfl,⟨_,_,ys,hS1.keep fun b hb=>?_⟩,(((hB1.setCell (by simp) _).setCell (by simp) _).setCell (by simp) _).setCell (by simp) _⟩
   have:=hL b hb;rw [heap_setCell_other _ _ _ _ (by simp;omega),heap_setCell_other _ _ _ _ (by simp;omega),heap_setCell_other _ _ _ _ (by simp;omega),heap_setCell_other _ _ _ _ (by simp;omega)]
set_option maxRecDepth 100000
def CF (w:World) (z:Nat) (d:D) (b:Value) (e:Ending) (w':World):Prop:=∃A n c,e = .returned (.tuple #[.slice A n c,b])∧bf w' (fun _=>False) (aA (.slice A n c)) z d (.slice A n c)∧(∀b,aA (.slice A n c) b→w.heap.size≤b∧b<w'.heap.size)∧Below w.heap.size w w'
theorem jb {f:Nat} {z:Nat} {pm:List Kd} {ff:List D→Option Out} {ds:List D} {d:D} {b:Value} {args:Array Value} (he:∀args w,(callFunc f args).run Try.prog w = .ok (.enter f args) w) (hm:aH gl0 Try.prog f {pm:=pm,rm:=[.own z 0 false,.dat 0],f:=ff}) (hd:ff ds=some (.ret [d,.v b] [])) (hbad:d ≠ .bad) {w:World} {F:Nat→Prop}
  (ha:dM w F (fun _=>none) 0 pm ds args.toList) (hF:∀b,F b→b<w.heap.size) :
  Calls Try.prog f args w (CF w z d b):=by
 refine(cE (ow:=fun _=>none) (F:=F) (ds:=ds) (rs:=[d,.v b]) (us:=[]) (args:=args) he hm hd eP ha (fun b hb=>⟨hF b hb,rfl⟩) (fun b i h=>by cases h)).mono ?_
 rintro e w' ⟨v,rfl,F',R,vs,rfl,hp⟩;have hl:=hp.len;obtain⟨u,u2,rfl⟩:=Bf (hl.trans rfl);have h0:=hp.res 0;have h1:=hp.res 1;rcases h0 with h0 | h0
 ·exact absurd h0 hbad
 rcases h1 with h1 | h1
 ·cases h1
 obtain⟨hu2,_⟩:=dL.1 h1;have hu2':u2=b:=hu2;subst hu2';obtain⟨m,e1,h2,h3⟩:=h0;have hB:Below w.heap.size w w':=⟨hp.os,hp.tape,hp.output,hp.size,fun b hb=>hp.keep b hb rfl⟩
 rcases h3 with ⟨h3,h30⟩ | ⟨g,o,c,us,cs,e,h4,h5,h6,h7,h8,h9,_,h11⟩
 ·have h3':u = .slice none 0 0:=h3
  subst h3';exact⟨_,_,_,rfl,⟨m,e1,h2,.inl ⟨rfl,h30⟩⟩,(fun b hb=>by cases hb),hB⟩
 ·have h4':u = .slice (some ⟨g,o,none⟩) m.length c:=h4
  subst h4';refine⟨_,_,_,rfl,⟨m,e1,h2,.inr ⟨g,o,c,us,cs,e,rfl,h5,h6,h7,aX (fun b hb=>hb.elim) (fun b hb=>hb.elim) _ _ h8,h9,rfl⟩⟩,fun b hb=>?_,hB⟩
  have hb':g=b:=HG hb;subst hb';exact⟨h11,(HS.1 h6).1⟩
def mvd (l:List Bx) (cs:List ByteArray) (by_:Int):List Bx:=if bI (br (aK l) by_ l cs)=true then br (aK l) by_ l cs else []
theorem DQ (l:List Bx) (cs:List ByteArray) (by_:Int):(if bI (br (aK l) by_ l cs)=true then bxs (br (aK l) by_ l cs) else .arr 4 [])=bxs (mvd l cs by_):=by
 unfold mvd;split<;>rfl
theorem rz (l:List Bx) (codes:List ByteArray) (h:lH l) (hl:codes.length≤60) (hg:bI l=true) (hc:∀c∈codes,∃k:Nat,fC (aK l) c=k∧k<l.length) :
  il [bxs l,txs codes]=some (.ret [if bI (br (aK l) 1 l codes)=true then bxs (br (aK l) 1 l codes) else .arr 4 [],B (bI (br (aK l) 1 l codes))] []):=by
 rw [rv];have e:=lO l codes 1 h hl hg hc;cases hq:bI (br (aK l) 1 l codes)<;>rw [hq] at e<;>simp -implicitDefEqProofs at e<;>simp -implicitDefEqProofs [e]
theorem uN (l:List Bx) (codes:List ByteArray) (h:lH l) (hl:codes.length≤60) (hg:bI l=true) (hc:∀c∈codes,∃k:Nat,fC (aK l) c=k∧k<l.length) {w:World} {F F':Nat→Prop} {y y':Value} (hr:aQ w F (bxs l) y) (hF:∀b,F b→b<w.heap.size) (hr':aQ w F' (txs codes) y') (hF':∀b,F' b→b<w.heap.size) :
  Calls Try.prog 51 #[y,y'] w (CF w 4 (bxs (mvd l codes 1)) (.bool (bI (br (aK l) 1 l codes)))) :=
 jb (ds:=[bxs l,txs codes]) (F:=fun b=>F b∨F' b) (HM Try.func51 (by kernel_rfl) rfl) rg (by rw [←DQ];exact rz l codes h hl hg hc) (by simp)
  (show ct w (fun b=>F b∨F' b) _ (.dat 2) (bxs l) y∧ct w _ _ (.dat 2) (txs codes) y'∧True from⟨.inr (aI (fun _ h=>.inl h) (fun _ _=>rfl) hr),.inr (aI (fun _ h=>.inr h) (fun _ _=>rfl) hr'),trivial⟩) (fun b hb=>hb.elim (hF b) (hF' b))
theorem uo (l:List Bx) (codes:List ByteArray) (h:lH l) (hl:codes.length≤60) (hg:bI l=true) (hc:∀c∈codes,∃k:Nat,fC (aK l) c=k∧k<l.length) {w:World} {F F':Nat→Prop} {y y':Value} (hr:aQ w F (bxs l) y) (hF:∀b,F b→b<w.heap.size) (hr':aQ w F' (txs codes) y') (hF':∀b,F' b→b<w.heap.size) :
  Calls Try.prog 73 #[y,y'] w (CF w 4 (bxs (mvd l codes (-1))) (.bool (bI (br (aK l) (-1) l codes)))) :=
 jb (ds:=[bxs l,txs codes]) (F:=fun b=>F b∨F' b) (HM Try.func73 (by kernel_rfl) rfl) qI (by rw [←DQ];exact qj l codes h hl hg hc) (by simp)
  (show ct w (fun b=>F b∨F' b) _ (.dat 2) (bxs l) y∧ct w _ _ (.dat 2) (txs codes) y'∧True from⟨.inr (aI (fun _ h=>.inl h) (fun _ _=>rfl) hr),.inr (aI (fun _ h=>.inr h) (fun _ _=>rfl) hr'),trivial⟩) (fun b hb=>hb.elim (hF b) (hF' b))
theorem qL (l:List Bx) (codes:List ByteArray) (by_:Int) (h:lH l) (hl:codes.length≤1048576) (hc:∀c∈codes,∃k:Nat,fC (aK l) c=k∧k<l.length) {w:World} {F F':Nat→Prop} {y y':Value} (hr:aQ w F (bxs l) y) (hF:∀b,F b→b<w.heap.size) (hr':aQ w F' (txs codes) y') (hF':∀b,F' b→b<w.heap.size) :
  Calls Try.prog 49 #[y,y',.int .i64 by_] w (CF w 4 (bxs (mvd l codes by_)) (.bool (bI (br (aK l) by_ l codes)))) :=
 jb (ds:=[bxs l,txs codes,I by_]) (F:=fun b=>F b∨F' b) (HM Try.func49 (by kernel_rfl) rfl) vg (by rw [←DQ];exact vO l codes by_ h hl hc) (by simp)
  (show ct w (fun b=>F b∨F' b) _ (.dat 2) (bxs l) y∧ct w _ _ (.dat 2) (txs codes) y'∧ct w _ _ (.dat 0) (I by_) (.int .i64 by_)∧True from⟨.inr (aI (fun _ h=>.inl h) (fun _ _=>rfl) hr),.inr (aI (fun _ h=>.inr h) (fun _ _=>rfl) hr'),.inr (dL.2 ⟨rfl,rfl⟩),trivial⟩) (fun b hb=>hb.elim (hF b) (hF' b))
theorem tF {f:Nat} {ff:List D→Option Out} {a:D} {b:Value} (he:∀args w,(callFunc f args).run Try.prog w = .ok (.enter f args) w) (hm:aH gl0 Try.prog f {pm:=[.dat 2],rm:=[.dat 0],f:=ff}) (hd:ff [a]=some (.ret [.v b] [])) {w:World} {F:Nat→Prop} {y:Value} (hr:aQ w F a y) (hF:∀b,F b→b<w.heap.size) :
  Calls Try.prog f #[y] w fun e w'=>e = .returned b∧Below w.heap.size w w' :=
 fO he hm ff rfl hd rfl eP (show ct w F _ (.dat 2) a y∧True from⟨.inr hr,trivial⟩) hF
theorem qJ (s:Sp) (h:cK s) {w:World} {F:Nat→Prop} {y:Value} (hr:aQ w F (sp s) y) (hF:∀b,F b→b<w.heap.size) :
  Calls Try.prog 41 #[y] w fun e w'=>e = .returned (.bool (aW s))∧Below w.heap.size w w' :=
 tF (HM Try.func41 (by kernel_rfl) rfl) vI (vd s h) hr hF
theorem qS (s:Sp) (h:cK s) {w:World} {F:Nat→Prop} {y:Value} (hr:aQ w F (sp s) y) (hF:∀b,F b→b<w.heap.size) :
  Calls Try.prog 34 #[y] w fun e w'=>e = .returned (.bool (aW s))∧Below w.heap.size w w' :=
 tF (HM Try.func34 (by kernel_rfl) rfl) uA (uT s h) hr hF
theorem BD {l:List Bx} {x:Fm} (h:fE l x=true):∀c∈x.2.1,∃k:Nat,fC (aK l) c=k∧k<l.length:=by
 intro c hc;unfold fE at h;simp only [HI] at h;have h1:=h.2;unfold jH at h1;obtain⟨j,hj,rfl⟩:=List.mem_iff_getElem.1 hc;have h2:=wZ h1 j hj;simp only [It,decide_eq_false_iff_not,AX] at h2;rcases DD (cs:=aK l) (c:=x.2.1[j]) with ⟨e,_⟩ | ⟨k,hk,e1,_⟩
 ·rw [e] at h2
  omega
 ·exact⟨k,e1,by simpa using hk⟩
def mvs (l:List Bx) (fs:List Fm):List Bx:=fs.foldl (fun m f=>br (aK m) 1 m f.2.1) l
theorem fN (w:World) (B:Nat):ut w B (.agg #[.slice none 0 0,.slice none 0 0,.int .i64 0,.int .i64 0]) ([],[],0,0) :=
 ⟨_,_,[],rfl,dR _ _ _ _,(fun b hb=>by cases hb),qs _ _,(fun b hb=>by cases hb)⟩
end Go.Proofs.Ytkcojipciiakdaa

end
