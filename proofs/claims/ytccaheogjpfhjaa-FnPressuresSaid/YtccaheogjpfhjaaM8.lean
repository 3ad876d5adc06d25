/-
  A part of the proof: contracts and plain forms of functions beneath the statement, made small by a program (names shortened, what is not needed left out).
-/
import Derived.Test.YtccaheogjpfhjaaRows
import Derived.Test.YtccaheogjpfhjaaM7
import Derived.Laws.Bits64b
open Go.IntKind renaming i64 → Ix, u64 → IQ
open Option renaming bind_some → Iy, getD_some → IM, isSome_some → Jg, map_some → Js
open Bool renaming false_eq_true → Iz, not_true → ID, not_false → IG, and_eq_true → IH, and_false → IK, and_self → IL, eq_iff_iff → Jr
open List renaming length_map → IA, getElem_mem → IC, range → II, findSome?_cons → IU, getElem?_eq_getElem → IV, mem_singleton → IW, map_set → IX, findIdx_le_length → IZ, mem_cons → Ja, mem_map → Jb, mem_append → Jd, mem_range → Je, length_append → Jf, getD_eq_getElem?_getD → Jh, mem_or_eq_of_mem_set → Ji, length_filter_le → Jk, map_cons → Jl, getElem_range → Jm, getElem?_map → Jn, all_eq_true → Jp, length_set → Jt
open Int renaming eq_ofNat_of_zero_le → IB, natCast_mul → Jc
open Go.Value renaming bool → IE, int → IJ
open Classical renaming propDecidable → IF
open Nat renaming zero_le → IP, le_refl → Jj, succ_le_succ → Jq
open Option.some renaming injEq → IY
open Decidable renaming not_not → Jo
open Go.BinOp renaming neq → Ju
set_option maxRecDepth 100000
set_option linter.unusedSimpArgs false
set_option linter.unusedVariables false
noncomputable section
namespace Go.Proofs.Ytccaheogjpfhjaa
open Go Go.V
set_option maxRecDepth 100000
theorem zY {n:Int}:∀(ps:List Pl) (i:Nat),kJ (fun _ (p:Pl)=>!decide (p.1=n)) i ps = !decide (n∈ps.map (·.1))
 | [],_=>by simp [kJ]
 | p::ps,i=>by
  simp only [kJ,zY ps,Jl,Ja];by_cases h:p.1=n
  ·simp [h]
  ·rw [Jr]
   have h':¬n=p.1:=fun e=>h e.symm
   simp [h,h']
theorem mh (ps:List Pl) (n:Int) (h:ps.length≤1048577):ee [pls ps,I n]=some (.ret [B (decide (n∈ps.map (·.1)))] []):=by
 rw [rP];simp only [ca,IA,Iy];refine aE _ (ju ps (fun i=>[I n,pls ps,I ps.length,I i]) (fun _ p=>!decide (p.1=n)) (.ret [B true] []) (.ext 0 []) (fun i hi=>?_) ?_ rfl rfl rfl) ?_
 ·have hw:Ix.wrap ((i:Int)+1)=(i:Int)+1:=ai (by omega) (by omega)
  have hi':(i:Int)<(ps.length:Int):=by omega
  have hri:=Ae hi;generalize ps[i]=p at *;by_cases h1:p.1=n<;>simp -implicitDefEqProofs [hi',hri,hw,h1]
 ·simp
 ·rw [zY]
  by_cases hm:n∈ps.map (·.1)<;>simp only [hm,decide_true,decide_false,ID,IG,Iz,if_true,if_false]<;>simp
theorem zL {wd ht:Nat} {l:Ps}:∀(ps:List Pl) (q:Option Int) (f f':Gr),chG l wd ht q f ps=some f'→∀y x,f y x ≠ -1→f' y x=f y x
 | [],q,f,f',h,y,x,hv=>by
  simp only [chG,IY] at h;rw [h]
 | p::ps,q,f,f',h,y,x,hv=>by
  simp only [chG] at h;split at h
  ·rename_i hc
   rw [IH] at hc;have hroom:jk wd ht f l p:=by
    have:=hc.2;unfold jR at this;exact @of_decide_eq_true _ (IF _) this
   have e:qk f l p y x=f y x:=by
    unfold qk mkA;rw [if_neg];rintro⟨h1,h2,h3,h4⟩;exact hv (hroom.2.2.2.2 y x (by omega) (by have:=hroom.2.1;omega) (by omega) (by have:=hroom.1;omega))
   rw [zL ps _ _ _ h y x (by rw [e];exact hv),e]
  ·cases h
theorem uf {wd ht:Nat} {l:Ps} (hl:eT l=true):∀(ps:List Pl) (q:Option Int) (f f':Gr),chG l wd ht q f ps=some f' →
  (∀p∈ps,0≤p.1∧p.1<8∧(∀q0,q=some q0→q0<p.1)∧∃y x,y<ht∧x<wd∧f' y x=p.1)∧(ps.map (·.1)).Pairwise (·<·)∧∀y x,f' y x=f y x∨f' y x∈ps.map (·.1)
 | [],q,f,f',h=>by
  simp only [chG,IY] at h;exact⟨(fun p hp=>by cases hp),List.Pairwise.nil,fun y x=>.inl (by rw [h])⟩
 | p::ps,q,f,f',h=>by
  simp only [chG] at h;split at h
  ·rename_i hc
   rw [IH] at hc;obtain⟨hn,hr⟩:=hc;have hroom:jk wd ht f l p:=by
    unfold jR at hr;exact @of_decide_eq_true _ (IF _) hr
   have h8:=jo hl;have hq:∀q0,q=some q0→q0<p.1:=fun q0 e=>by
    subst e;unfold tE at hn;simp only [IH,decide_eq_true_eq] at hn;exact hn.2
   unfold tE at hn;rw [IH,decide_eq_true_eq] at hn;obtain⟨s1,s2,s3,s4,s5,s6⟩:=wO hl hn.1.1 hn.1.2;obtain⟨r1,r2,r3,r4,_⟩:=hroom;obtain⟨g1,g2,g3⟩:=uf hl ps _ _ _ h;have hcell:qk f l p p.2.2.1.toNat p.2.1.toNat=p.1:=by
    unfold qk mkA;rw [if_pos (by omega)]
   have hk:=zL ps _ _ _ h p.2.2.1.toNat p.2.1.toNat (by rw [hcell];have:=hn.1.1;omega);rw [hcell] at hk;refine⟨fun p' hp'=>?_,?_,fun y x=>?_⟩
   ·rcases Ja.1 hp' with rfl | hp'
    ·exact⟨hn.1.1,by have:=hn.1.2;omega,hq,_,_,by omega,by omega,hk⟩
    ·obtain⟨k1,k2,k3,k4⟩:=g1 p' hp'
     exact⟨k1,k2,fun q0 e=>Int.lt_trans (hq q0 e) (k3 p.1 rfl),k4⟩
   ·rw [Jl,List.pairwise_cons]
    refine⟨fun n hn'=>?_,g2⟩
    obtain⟨p',hp',rfl⟩:=Jb.1 hn';exact(g1 p' hp').2.2.1 p.1 rfl
   ·rw [Jl,Ja]
    rcases g3 y x with h1 | h1
    ·unfold qk mkA at h1
     split at h1
     ·exact .inr (.inl h1)
     ·exact .inl h1
    ·exact .inr (.inr h1)
  ·cases h
section
variable {wd ht:Nat} {l:Ps} {ps:List Pl} {f:Gr}
theorem Ctx.nums (C:Ctx wd ht l ps f) {n:Int} (hn:n∈ps.map (·.1)):0≤n∧n<8∧∃y x,y<ht∧x<wd∧f y x=n:=by
 obtain⟨p,hp,rfl⟩:=Jb.1 hn;obtain⟨h1,h2,_,h3⟩:=(uf C.ok _ _ _ _ C.ch).1 p hp;exact⟨h1,h2,h3⟩
theorem Ctx.vals (C:Ctx wd ht l ps f) (y x:Nat) (h:0≤f y x):f y x∈ps.map (·.1):=by
 rcases(uf C.ok _ _ _ _ C.ch).2.2 y x with h1 | h1
 ·rw [h1] at h
  exact absurd h (by decide)
 ·exact h1
theorem Ctx.prs_nums (C:Ctx wd ht l ps f) (R:List Int) {n:Int} (h:jG wd ht f R n):n∈ps.map (·.1):=by
 cases h with
 | base h =>
  obtain⟨y,_,h2,rfl,h4⟩:=h;exact C.vals _ _ h4
 | step h1 h2 _ =>
  obtain⟨y,x,_,_,rfl,_⟩:=h2;exact C.vals _ _ h1
theorem Ctx.prs_nums' (C:Ctx wd ht l ps f) (R:List Int) {n:Int} (h:jG ht wd (bw f) R n):n∈ps.map (·.1):=by
 cases h with
 | base h =>
  obtain⟨y,_,h2,rfl,h4⟩:=h;exact C.vals (ht - 1) y h4
 | step h1 h2 _ =>
  obtain⟨y,x,_,_,rfl,_⟩:=h2;exact C.vals x y h1
theorem AA {A N:List Int} (hA:A.Nodup) (hs:∀n∈A,n∈N) (he:A.length=N.length):∀n∈N,n∈A:=fun n hn=>by
 by_cases h:n∈A
 ·exact h
 ·have h1:(n::A).Nodup:=List.nodup_cons.2 ⟨h,hA⟩
  have:=h1.length_le_of_subset (l₂:=N) (fun m hm=>by
   rcases Ja.1 hm with rfl | hm
   ·exact hn
   ·exact hs m hm)
  simp at this;omega
theorem Ctx.all_pressed (C:Ctx wd ht l ps f) {R:List Int} (h:(bv wd ht f R).length=ps.length) {n:Int} (hn:n∈ps.map (·.1)):n∈bv wd ht f R :=
 AA (fx (km _)) (fun n hn=>C.prs_nums R ((iq (C.prs8 R) n).1 hn)) (by rw [IA];exact h) n hn
theorem Ctx.all_pressed' (C:Ctx wd ht l ps f) {R:List Int} (h:(bv ht wd (bw f) R).length=ps.length) {n:Int} (hn:n∈ps.map (·.1)):n∈bv ht wd (bw f) R :=
 AA (fx (km _)) (fun n hn=>C.prs_nums' R ((iq (C.prs8' R) n).1 hn)) (by rw [IA];exact h) n hn
theorem Ctx.lean (C:Ctx wd ht l ps f) {R:List Int} {n k:Int} (hn:0≤n) (hk:k∈sy wd ht f n) (hp:k∈bv wd ht f R):n∈bv wd ht f R :=
 (iq (C.prs8 R) n).2 (Prs.step hn ((iq (Ft C.g n) k).1 hk) ((iq (C.prs8 R) k).1 hp))
theorem Ctx.lean' (C:Ctx wd ht l ps f) {R:List Int} {n k:Int} (hn:0≤n) (hk:k∈sy ht wd (bw f) n) (hp:k∈bv ht wd (bw f) R):n∈bv ht wd (bw f) R :=
 (iq (C.prs8' R) n).2 (Prs.step hn ((iq (Ft (mI C.g) n) k).1 hk) ((iq (C.prs8' R) k).1 hp))
theorem Ctx.mark (C:Ctx wd ht l ps f) {n:Int} (hn:n∈ps.map (·.1)):fW [ints (an wd ht f),I n]=some (.ret [B true] []):=by
 obtain⟨h1,h2,y,x,h3,h4,h5⟩:=C.nums hn;have hm:n∈an wd ht f:=h5 ▸ Ah f h3 h4;have hl:=mG (an wd ht f) n (by rw [gV];have:=qD C.w8 C.h8;omega);rw [decide_eq_true hm] at hl;rw [vI];simp -implicitDefEqProofs [h1,hl]
theorem Ba (wd ht:Nat) (f:Gr) (n:Int):setL (fN 0 1 wd ht f n)=sy ht wd (bw f) n:=uF fun k=>qx wd ht f n k
theorem Ctx.at_right (C:Ctx wd ht l ps f) {n:Int} (hn:n∈ps.map (·.1)):dK [I (wd:Int),I (ht:Int),pcs l,pls ps,I n]=some (.ret [ints (sy wd ht f n),B true] [])∧dC [I (wd:Int),I (ht:Int),pcs l,pls ps,I n]=some (.ret [ints (sy wd ht f n),B true] []):=by
 have e1:=C.e_chase;have e2:=C.e_asked;have e3:=C.e_grid;obtain⟨t1,t2⟩:=ji (aM wd ht f) true;obtain⟨t3,t4,t5⟩:=cu (an wd ht f) true;have hp:=mh ps n (by have:=C.pl.1;omega);rw [decide_eq_true hn] at hp;have ha:=oL wd ht f n C.w1 C.w8 C.h8;obtain⟨k1,k2,k3⟩:=(BW C.g n).keys (Ft C.g n);have hk:=ig (atA wd ht f n) (by omega);rw [k1] at hk;have hb:=jB 1 0 wd ht f C.g n (by omega) (by omega) C.w8 C.h8 C.w1 C.h1;rw [show((1:Nat):Int)=1 from rfl,show((0:Nat):Int)=0 from rfl] at hb;have hm:=C.mark hn;refine⟨?_,?_⟩
 ·rw [nW,e1]
  simp -implicitDefEqProofs [t1,t2,-aA,hp,ha,hk];rfl
 ·rw [oA,e2]
  simp -implicitDefEqProofs [e3,t3,t5,-aA,-cj,hm,hb];rfl
theorem Ctx.at_below (C:Ctx wd ht l ps f) {n:Int} (hn:n∈ps.map (·.1)):eE [I (wd:Int),I (ht:Int),pcs l,pls ps,I n]=some (.ret [ints (sy ht wd (bw f) n),B true] [])∧eF [I (wd:Int),I (ht:Int),pcs l,pls ps,I n]=some (.ret [ints (sy ht wd (bw f) n),B true] []):=by
 have e1:=C.e_chase;have e2:=C.e_asked;have e3:=C.e_grid;have e4:=C.e_turned;obtain⟨t1,t2⟩:=ji (aM wd ht f) true;obtain⟨t3,t4,t5⟩:=cu (an wd ht f) true;have hp:=mh ps n (by have:=C.pl.1;omega);rw [decide_eq_true hn] at hp;have ha:=oL ht wd (bw f) n C.h1 C.h8 C.w8;obtain⟨k1,k2,k3⟩:=(BW (mI C.g) n).keys (Ft (mI C.g) n);have hk:=ig (atA ht wd (bw f) n) (by omega);rw [k1] at hk;have hb:=jB 0 1 wd ht f C.g n (by omega) (by omega) C.w8 C.h8 C.w1 C.h1;rw [show((1:Nat):Int)=1 from rfl,show((0:Nat):Int)=0 from rfl,Ba] at hb;have hm:=C.mark hn;refine⟨?_,?_⟩
 ·rw [qn,e1]
  simp -implicitDefEqProofs [t1,t2,-aA,e4,hp,ha,hk];rfl
 ·rw [qw,e2]
  simp -implicitDefEqProofs [e3,t3,t5,-aA,-cj,hm,hb]
end
theorem Cg:∀n:Nat,n<9→(dU n).all (fun s=>dp s 0 ((n:Int) - 1))=true:=by decide +kernel
theorem re {wd ht:Nat} {f:Gr} {many:Nat} (hh:ht≤8) {q:List Int} (h:gO wd ht f many=some q):dp q 0 ((ht:Int) - 1)=true∧(bv wd ht f q).length=many∧q.length≤8:=by
 unfold gO at h;have h1:=List.mem_of_find?_eq_some h;have h2:=List.find?_some h;have h3:=Jp.1 (Cg ht (by omega)) q h1;exact⟨h3,by simpa using h2,by have:=(BC (n:=ht) (by omega) h1).2;omega⟩
end Go.Proofs.Ytccaheogjpfhjaa

namespace Go.Proofs.Ytccaheogjpfhjaa
open Go Go.V
set_option maxRecDepth 100000
theorem yr (a b:Nat):((a:Int)).tmod (b:Int)=((a % b:Nat):Int):=(Int.ofNat_tmod a b).symm
theorem yA (a b:Nat):((a:Int)).tdiv (b:Int)=((a / b:Nat):Int):=(Int.ofNat_tdiv a b).symm
abbrev cb (wd:Nat) (i:Nat) (at_:Nat) (t:Bool):Pl:=((i:Int),((at_ % wd:Nat):Int),((at_ / wd:Nat):Int),t)
def th (l:Ps) (wd ht:Nat) (f:Gr) (p:Pl):Option Gr:=if jR wd ht f l p=true then some (qk f l p) else none
set_option maxHeartbeats 2000000 in
theorem xv (wd ht:Nat) (hw1:1≤wd) (hh1:1≤ht) (hw8:wd≤8) (hh8:ht≤8) (l:Ps) (hl:eT l=true) (f:Gr) (hf:GOK wd ht f) (i:Nat) (hi:i<l.length) (t:Bool) (at_:Nat) (hat:at_<wd*ht) :
  jT [ints (an wd ht f),I (wd:Int),I (ht:Int),pce l[i],B t,I (at_:Int),I (i:Int)]=some (.ret (iD wd ht (th l wd ht f (cb wd i at_ t))) []):=by
 have b0:=qD hw8 hh8;have hflen:(an wd ht f).length≤64:=by rw [gV];exact b0
 have hown:=ri (an wd ht f) (by omega);obtain⟨s1,s2,s3,s4,s5,s6⟩:=wO hl (p:=cb wd i at_ t) (by show(0:Int)≤(i:Int);omega) (by show(i:Int)≤(l.length:Int) - 1;omega);have hsz:szI l (cb wd i at_ t)=(if t=true then l[i].2 else l[i].1,if t=true then l[i].1 else l[i].2):=by
  unfold szI;simp only [Int.toNat_natCast];rw [Jh,IV hi];cases t<;>rfl
 have hsd:=oK l[i] t;rw [show(if t=true then l[i].2 else l[i].1)=(szI l (cb wd i at_ t)).1 by rw [hsz],show(if t=true then l[i].1 else l[i].2)=(szI l (cb wd i at_ t)).2 by rw [hsz],←s1,←s2] at hsd;have hroom:jR wd ht f l (cb wd i at_ t)=@decide _ (IF (jk wd ht f l (cb wd i at_ t))):=rfl;have hno:¬jk wd ht f l (cb wd i at_ t)→th l wd ht f (cb wd i at_ t)=none:=fun h=>by
  unfold th;rw [hroom,@decide_eq_false _ (IF _) h];rfl
 have hyes:jk wd ht f l (cb wd i at_ t)→th l wd ht f (cb wd i at_ t)=some (mkA f (at_ % wd) (at_ / wd) (szN l (cb wd i at_ t)).1 (szN l (cb wd i at_ t)).2 (i:Int)):=fun h=>by
  unfold th;rw [hroom,@decide_eq_true _ (IF _) h];rfl
 have hbox:qp 2 (pce l[i])=some (pce l[i]):=by simp
 have hfld:mQ true 2 0 (pce l[i])=some (pce l[i]):=by simp
 have htm:=yr at_ wd;have htd:=yA at_ wd;have hdm:=Nat.div_add_mod at_ wd;have hXl:at_ % wd<wd:=Nat.mod_lt _ (by omega);have hYl:at_ / wd<ht:=Nat.div_lt_of_lt_mul hat;unfold jk at hno hyes;generalize (szN l (cb wd i at_ t)).1=a at *;generalize (szN l (cb wd i at_ t)).2=b at *;generalize hR:th l wd ht f (cb wd i at_ t)=R at *;simp only at hno hyes;clear hroom hsz s1 s2 hR;generalize at_ % wd=X at *;generalize at_ / wd=Y at *;have hw0:¬wd=0:=by omega
 have hwX:Ix.wrap ((X:Int)+(a:Int))=X+a:=ai (by omega) (by omega);have hwY:Ix.wrap ((Y:Int)+(b:Int))=Y+b:=ai (by omega) (by omega);have hwY0:Ix.wrap (Y:Int)=Y:=ai (by omega) (by omega);rw [yd];by_cases c5:(wd:Int)<(X:Int)+(a:Int)
 ·rw [hno (fun h=>by omega)]
  simp -implicitDefEqProofs [hbox,hfld,hsd,hw0,htm,htd,hwX,c5,hwY0,iD,-xW,-hZ]
 by_cases c6:(ht:Int)<(Y:Int)+(b:Int)
 ·rw [hno (fun h=>by omega)]
  simp -implicitDefEqProofs [hbox,hfld,hsd,hw0,htm,htd,hwX,c5,hwY0,hwY,c6,iD,-xW,-hZ]
 simp -implicitDefEqProofs [hbox,hfld,hsd,hw0,htm,htd,hwX,c5,hwY0,hwY,c6,hown,-xW,-hZ];refine bo (fun r'=>r'=some (.ret (iD wd ht R) []))
  (fun dy:Nat=>[I (wd:Int),I (at_:Int),I (i:Int),I (a:Int),I (b:Int),ints (an wd ht (mkP f X Y a (i:Int) (Y+dy) X)),I (dy:Int)])
  (fun dy=>dy≤b∧∀y' x:Nat,Y≤y'→y'<Y+dy→X≤x→x<X+a→f y' x = -1) (fun dy=>b - dy)
  (fun o=>(o = .ret [ints [],B false] []∧R=none)∨(o = .ext 0 [ints (an wd ht (mkA f X Y a b (i:Int)))]∧∀y' x:Nat,Y≤y'→y'<Y+b→X≤x→x<X+a→f y' x = -1))
  (fun dy hdy=>?_) 0 ⟨IP _,fun y' x h1 h2=>by omega⟩ (by rw [Nat.add_zero,sn];rfl) (fun o ho=>?_)
 ·obtain⟨d1,d2⟩:=hdy
  have hwdy:Ix.wrap ((dy:Int)+1)=(dy:Int)+1:=ai (by omega) (by omega);by_cases e1:dy<b
  ·have e1':(dy:Int)<(b:Int):=by omega
   obtain⟨q2,hq2⟩:∃q2,q2=dy*wd:=⟨_,rfl⟩
   have b2:=qD (a:=dy) (b:=wd) (by omega) hw8;have w2:Ix.wrap ((dy:Int)*(wd:Int))=(q2:Int):=by rw [hq2,Jc,ai]<;>rw [←Jc]<;>omega
   obtain⟨q3,hq3⟩:∃q3,q3=at_+q2:=⟨_,rfl⟩
   have w3:Ix.wrap ((at_:Int)+(q2:Int))=(q3:Int):=by rw [ai (by omega) (by omega)];omega
   simp -implicitDefEqProofs [e1'];refine bo (fun r'=>(∃a':Nat,r'=some (.nrm [I (wd:Int),I (at_:Int),I (i:Int),I (a:Int),I (b:Int),ints (an wd ht (mkP f X Y a (i:Int) (Y+a') X)),I (a':Int)])∧(a'≤b∧∀y' x:Nat,Y≤y'→y'<Y+a'→X≤x→x<X+a→f y' x = -1)∧b - a'<b - dy) ∨
     ∃o,r'=some o∧o.ends=true∧((o = .ret [ints [],B false] []∧R=none)∨(o = .ext 0 [ints (an wd ht (mkA f X Y a b (i:Int)))]∧∀y' x:Nat,Y≤y'→y'<Y+b→X≤x→x<X+a→f y' x = -1)))
    (fun dx:Nat=>[I (wd:Int),I (at_:Int),I (i:Int),I (a:Int),I (b:Int),ints (an wd ht (mkP f X Y a (i:Int) (Y+dy) (X+dx))),I (dy:Int),I (dx:Int)])
    (fun dx=>dx≤a∧∀x:Nat,X≤x→x<X+dx→f (Y+dy) x = -1) (fun dx=>a - dx)
    (fun o=>(o = .ret [ints [],B false] []∧R=none)∨(o = .ext 2 [I (wd:Int),I (at_:Int),I (i:Int),I (a:Int),I (b:Int),ints (an wd ht (mkP f X Y a (i:Int) (Y+dy) (X+a))),I (dy:Int)]∧∀x:Nat,X≤x→x<X+a→f (Y+dy) x = -1))
    (fun dx hdx=>?_) 0 ⟨IP _,fun x h1 h2=>by omega⟩ rfl (fun o ho=>?_)
   ·obtain⟨g1,g2⟩:=hdx
    have hwdx:Ix.wrap ((dx:Int)+1)=(dx:Int)+1:=ai (by omega) (by omega);by_cases e2:dx<a
    ·have e2':(dx:Int)<(a:Int):=by omega
     obtain⟨q4,hq4⟩:∃q4,q4=q3+dx:=⟨_,rfl⟩
     have w4:Ix.wrap ((q3:Int)+(dx:Int))=(q4:Int):=by rw [ai (by omega) (by omega)];omega
     have hq5:q4=(Y+dy)*wd+(X+dx):=by
      rw [hq4,hq3,hq2,Nat.add_mul,←hdm,Nat.mul_comm wd Y];omega
     have r1:=yN (wd:=wd) (ht:=ht) (y:=Y+dy) (x:=X+dx) (p:=q4) (mkP f X Y a (i:Int) (Y+dy) (X+dx)) (by omega) (by omega) hq5;have r2:=zD (wd:=wd) (ht:=ht) (y:=Y+dy) (x:=X+dx) (p:=q4) (mkP f X Y a (i:Int) (Y+dy) (X+dx)) (by omega) (by omega) hq5;have r3:=Aj (wd:=wd) (ht:=ht) (y:=Y+dy) (x:=X+dx) (p:=q4) (mkP f X Y a (i:Int) (Y+dy) (X+dx)) (i:Int) (by omega) (by omega) hq5;have hv:mkP f X Y a (i:Int) (Y+dy) (X+dx) (Y+dy) (X+dx)=f (Y+dy) (X+dx):=by
      unfold mkP;rw [if_neg (by omega)]
     rw [hv] at r2;rw [uG f X Y a (i:Int) (Y+dy) (X+dx) (by omega) (by omega) (by omega)] at r3;have hge:=(hf (Y+dy) (X+dx) (by omega) (by omega)).1;by_cases e3:f (Y+dy) (X+dx) = -1
     ·refine .inl ⟨dx+1,?_,⟨by omega,fun x h1 h2=>?_⟩,by omega⟩
      ·rw [e3] at r2
       simp -implicitDefEqProofs [e2',w2,w3,w4,r1,r2,r3,hwdx,-bK,-ir];rfl
      ·by_cases e4:x=X+dx
       ·rw [e4];exact e3
       ·exact g2 x h1 (by omega)
     ·have e4:0≤f (Y+dy) (X+dx):=by omega
      refine .inr ⟨.ret [ints [],B false] [],?_,rfl,.inl ⟨rfl,hno fun h=>e3 (h.2.2.2.2 (Y+dy) (X+dx) (by omega) (by omega) (by omega) (by omega))⟩⟩
      simp -implicitDefEqProofs [e2',w2,w3,w4,r1,r2,e4,-bK,-ir]
    ·have e2':¬(dx:Int)<(a:Int):=by omega
     have e5:dx=a:=by omega
     subst e5;refine .inr ⟨_,?_,?_,.inr ⟨rfl,g2⟩⟩
     ·simp -implicitDefEqProofs
     ·rfl
   ·rcases ho with ⟨rfl,h2⟩ | ⟨rfl,h2⟩
    ·exact .inr ⟨_,by simp -implicitDefEqProofs,rfl,.inl ⟨rfl,h2⟩⟩
    ·refine .inl ⟨dy+1,?_,⟨by omega,fun y' x g1 g2 g3 g4=>?_⟩,by omega⟩
     ·rw [xV f X Y a (i:Int) (Y+dy) (by omega)]
      simp -implicitDefEqProofs [hwdy];rfl
     ·by_cases e3:y'=Y+dy
      ·rw [e3];exact h2 x g3 g4
      ·exact d2 y' x g1 (by omega) g3 g4
  ·have e1':¬(dy:Int)<(b:Int):=by omega
   have e5:dy=b:=by omega
   subst e5;refine .inr ⟨_,?_,?_,.inr ⟨rfl,d2⟩⟩
   ·rw [xz]
    simp -implicitDefEqProofs
   ·rfl
 ·rcases ho with ⟨rfl,h2⟩ | ⟨rfl,h2⟩
  ·rw [h2]
   simp -implicitDefEqProofs [iD]
  ·have hroomP:Du f (X:Int) (Y:Int) a b:=fun y x g1 g2 g3 g4=>h2 y x (by omega) (by omega) (by omega) (by omega)
   rw [hyes ⟨by omega,by omega,by omega,by omega,hroomP⟩];simp -implicitDefEqProofs [iD]
set_option maxRecDepth 100000
def bG (G:List Int):Nat:=G.findIdx fun v=>decide (v<0)
def sa (rec:Gr→List Int→Option (List Pl)) (l:Ps) (wd ht:Nat) (f:Gr) (used:List Int) (at_ i:Nat) (t:Bool):Option (List Pl) :=
 if t=true∧(l.getD i (0,0)).1=(l.getD i (0,0)).2 then none else
 match th l wd ht f (cb wd i at_ t) with
 | none=>none
 | some g=>(rec g (used++[(i:Int)])).map (cb wd i at_ t::·)
def fp (l:Ps) (wd ht:Nat):Nat→Gr→List Int→Option (List Pl)
 | 0,_,_=>none
 | n+1,f,used =>
  if bG (an wd ht f)=wd*ht then(if used.length=l.length then some [] else none)
  else(II l.length).findSome? fun i:Nat=>if (i:Int)∈used then none else [false,true].findSome? (sa (fp l wd ht n) l wd ht f used (bG (an wd ht f)) i)
def jt:Option (List Pl)→List D
 | none=>[pls [],B false]
 | some q=>[pls q,B true]
theorem pT {β:Type} {body:List D→Option Out} (l:List β) (st:Nat→List D) (o:β→Option Out) (fin:Out) (hs:∀(i:Nat) (hi:i<l.length),body (st i)=some ((o l[i]).getD (.nrm (st (i+1))))) (he:body (st l.length)=some fin) (h1:∀x r,o x=some r→r.ends=true) (h2:fin.ends=true) {s0:List D} (h:s0=st 0) :
  aI body s0=some ((l.findSome? o).getD fin):=by
 rw [h];have key:∀(n i:Nat),i+n=l.length→Runs body (st i) (((l.drop i).findSome? o).getD fin):=by
  intro n;induction n with
  | zero =>
   intro i hi;have:i=l.length:=by omega
   subst this;rw [List.drop_length];exact Runs.one he h2
  | succ n ih =>
   intro i hi;have hlt:i<l.length:=by omega
   have hb:=hs i hlt;rw [List.drop_eq_getElem_cons hlt,IU];cases hp:o l[i] with
   | none =>
    rw [hp] at hb;exact .nrm hb (ih (i+1) (by omega))
   | some r =>
    rw [hp] at hb;exact Runs.one hb (h1 _ _ hp)
 exact(key l.length 0 (by omega)).loop
theorem mW {α β:Type} {o:α→Option β}:∀{l:List α} {r:β},l.findSome? o=some r→∃x∈l,o x=some r
 | [],r,h=>by simp at h
 | x::l,r,h=>by
  rw [IU] at h;cases hx:o x with
  | none =>
   rw [hx] at h;obtain⟨y,h1,h2⟩:=mW h;exact⟨y,by simp [h1],h2⟩
  | some s =>
   rw [hx] at h;exact⟨x,by simp,by rw [hx];exact h⟩
theorem mO {α β γ:Type} (f:α→Option β) (g:β→γ):∀l:List α,(l.findSome? fun x=>(f x).map g)=(l.findSome? f).map g
 | []=>rfl
 | x::l=>by
  rw [IU,IU];cases f x with
  | none=>exact mO f g l
  | some y=>rfl
theorem tK (l:Ps) (wd ht:Nat) (hw1:1≤wd) (hw8:wd≤8) (hh8:ht≤8):∀(n:Nat) (f:Gr) (used:List Int) (q:List Pl),fp l wd ht n f used=some q→q.length≤n∧∀p∈q,(0≤p.1∧p.1<l.length)∧(0≤p.2.1∧p.2.1≤8)∧0≤p.2.2.1∧p.2.2.1≤64
 | 0,f,used,q,h=>by cases h
 | n+1,f,used,q,h=>by
  simp only [fp] at h;split at h
  ·split at h
   ·cases h
    exact⟨IP _,fun p hp=>by cases hp⟩
   ·cases h
  ·rename_i hne
   obtain⟨i,hi,h⟩:=mW h;have hi:=Je.1 hi;split at h
   ·cases h
   ·obtain⟨t,ht',h⟩:=mW h
    unfold sa at h;split at h
    ·cases h
    ·split at h
     ·cases h
     ·rename_i g hg
      have hat:bG (an wd ht f)≤64:=by
       have h1:bG (an wd ht f)≤(an wd ht f).length:=IZ;rw [gV] at h1;have:=qD hw8 hh8;omega
      cases hr:fp l wd ht n g (used++[(i:Int)]) with
      | none=>rw [hr] at h;cases h
      | some q' =>
       rw [hr] at h;simp only [Js,IY] at h;subst h;obtain⟨k1,k2⟩:=tK l wd ht hw1 hw8 hh8 n _ _ _ hr;refine⟨by simp only [List.length_cons];omega,fun p hp=>?_⟩
       rcases Ja.1 hp with rfl | hp
       ·have h1:bG (an wd ht f) % wd<wd:=Nat.mod_lt _ (by omega)
        have h2:bG (an wd ht f) / wd≤bG (an wd ht f):=Nat.div_le_self _ _;show((0:Int)≤(i:Int)∧(i:Int)<l.length)∧((0:Int)≤((bG (an wd ht f) % wd:Nat):Int)∧((bG (an wd ht f) % wd:Nat):Int)≤8)∧(0:Int)≤((bG (an wd ht f) / wd:Nat):Int)∧((bG (an wd ht f) / wd:Nat):Int)≤64
        generalize bG (an wd ht f) % wd=X at *;generalize bG (an wd ht f) / wd=Y at *;omega
       ·exact k2 p hp
theorem xj:∀(n:Nat) (x0 x1 x2 x3 x4:D),LeO (ce n [x0,x1,x2,x3,x4]) (ce (n+1) [x0,x1,x2,x3,x4])
 | 0,x0,x1,x2,x3,x4=>LeO.none _
 | n+1,x0,x1,x2,x3,x4=>by
  have ih:=xj n;rw [jc (n+1),jc n]
  repeat' first
   | with_reducible exact LeO.refl _
   | exact ih _ _ _ _ _
   | apply LeO.ifD
   | apply LeO.callK
   | apply LeO.outK
   | apply LeO.loop
   | apply LeO.ifN
   | apply LeO.bind
   | intro _
theorem HL (a b c:Int) (t:Bool):lX [(0,1),(1,1),(2,1),(3,1)] [D.v (IJ Ix 0),D.v (IJ Ix 0),D.v (IJ Ix 0),D.v (IE false)] [I a,I b,I c,B t]=some (plD (a,b,c,t)):=by
 simp [lX,sZ]
theorem HH (p:Pl):aW 4 [plD p]=some (pls [p]):=by simp [aW,kH]
theorem BI (q:List Pl):gT (pls q)=some (pls q):=nX fun p=>rfl
theorem BP {q r:List Pl} (h:q.length+r.length≤1048577):ew 4 32 (pls q) (pls r)=some (pls (q++r)):=by
 rw [bO,if_pos (by simp only [IA];omega)];simp
theorem GO {l:Ps} (hl:eT l=true) {wd ht:Nat} {f g:Gr} (hf:GOK wd ht f) {i:Nat} (hi:i<l.length) {at_:Nat} {t:Bool} (h:th l wd ht f (cb wd i at_ t)=some g):GOK wd ht g:=by
 unfold th at h;split at h
 ·cases h
  refine DO hl hf (q:=none) ?_
  unfold tE;have h1:(0:Int)≤(i:Int)∧(i:Int)≤(l.length:Int) - 1:=by omega
  simp [h1]
 ·cases h
theorem Di (r:Option (List Pl)):∃q b,jt r=[pls q,B b]∧(r=none→q=[]∧b=false)∧(∀q',r=some q'→q=q'∧b=true):=by
 cases r with
 | none=>exact⟨[],false,rfl,fun _=>⟨rfl,rfl⟩,fun q' h=>by cases h⟩
 | some q=>exact⟨q,true,rfl,(fun h=>by cases h),fun q' h=>by cases h;exact⟨rfl,rfl⟩⟩
theorem QD.has {z:D} {q:List Int} (h:QD z q) (hl:q.length≤1000) (n:Int):bP [z,I n]=some (.ret [B (decide (n∈q))] []):=by
 rcases h with rfl | ⟨rfl,rfl⟩
 ·exact mG q n (by omega)
 ·rw [wc]
  simp
theorem vF (q:List Pl) (b:Bool):al (D.tup [pls q,B b]) 0=some (pls q)∧al (bS (D.tup [pls q,B b]) 0) 1=some (B b):=⟨rfl,rfl⟩
set_option maxHeartbeats 2000000 in
theorem rE (wd ht:Nat) (hw1:1≤wd) (hh1:1≤ht) (hw8:wd≤8) (hh8:ht≤8) (l:Ps) (hl:eT l=true):∀(k:Nat) (f:Gr) (used:List Int) (z:D),GOK wd ht f→used.Nodup→(∀u∈used,0≤u∧u<l.length)→QD z used→used.length+k=l.length →
  ce (k+1) [ints (an wd ht f),I (wd:Int),I (ht:Int),pcs l,z]=some (.ret (jt (fp l wd ht (k+1) f used)) []):=by
 intro k;induction k with
 | zero =>
  intro f used z hf hnd hin hz hk;have h8:=jo hl;have hrow:=hz.row (by omega);have b0:=qD hw8 hh8;have hall:∀i:Nat,i<l.length→(i:Int)∈used:=fun i hi=>by
   refine AA (N:=(II l.length).map fun n:Nat=>(n:Int)) hnd (fun n hn=>?_) (by simp;omega) (i:Int) (Jb.2 ⟨i,Je.2 hi,rfl⟩)
   have:=hin n hn;exact Jb.2 ⟨n.toNat,Je.2 (by omega),by omega⟩
  have hlG:(an wd ht f).length=wd*ht:=gV wd ht f;rw [jc];rw [show fp l wd ht (0+1) f used=if bG (an wd ht f)=wd*ht then(if used.length=l.length then some [] else none)
   else(II l.length).findSome? fun i:Nat=>if (i:Int)∈used then none else [false,true].findSome? (sa (fp l wd ht 0) l wd ht f used (bG (an wd ht f)) i) from rfl]
  have hfa:bG (an wd ht f)≤(an wd ht f).length:=IZ;have hbef:∀i (h:i<(an wd ht f).length),i<bG (an wd ht f)→¬(an wd ht f)[i]<0:=fun i h hi=>by
   have:=List.not_of_lt_findIdx hi;simpa using this
  have haft:∀(h:bG (an wd ht f)<(an wd ht f).length),(an wd ht f)[bG (an wd ht f)]<0:=fun h=>by
   exact of_decide_eq_true (List.findIdx_getElem (p:=fun v=>decide (v<0)) (xs:=an wd ht f) (w:=h))
  generalize bG (an wd ht f)=a at *;generalize an wd ht f=G at *;refine aE _ (dJ a (fun i=>[ints G,I (wd:Int),I (ht:Int),pcs l,z,I (i:Int)]) (.ext 0 [ints G,I (wd:Int),I (ht:Int),pcs l,z,I (a:Int)]) (fun i hi=>?_) ?_ rfl rfl) ?_
  ·have hw:Ix.wrap ((i:Int)+1)=(i:Int)+1:=ai (by omega) (by omega)
   have hi2:i<G.length:=by omega
   have hi':(i:Int)<(G.length:Int):=by omega
   have hri:aF 1 (ints G) (I (i:Int))=some [I G[i]]:=by simp [hi2]
   have hb:=hbef i hi2 hi;have hb':0≤G[i]:=by omega
   generalize G[i]=v at *;simp -implicitDefEqProofs [hi',hri,hb',hw]
  ·by_cases ha:a<G.length
   ·have ha':(a:Int)<(G.length:Int):=by omega
    have hri:aF 1 (ints G) (I (a:Int))=some [I G[a]]:=by simp [ha]
    have hb:=haft ha;have hb':¬0≤G[a]:=by omega
    generalize G[a]=v at *;simp -implicitDefEqProofs [ha',hri,hb']
   ·have ha':¬(a:Int)<(G.length:Int):=by omega
    simp -implicitDefEqProofs [ha']
  ·by_cases ha:a=wd*ht
   ·have ha':(a:Int)=(G.length:Int):=by omega
    have e:used.length=l.length:=by omega
    rw [if_pos ha,if_pos e];simp -implicitDefEqProofs [ha',hrow.len,e,jt]
   ·have ha':¬(a:Int)=(G.length:Int):=by omega
    rw [if_neg ha];have hnone:((II l.length).findSome? fun i:Nat=>if (i:Int)∈used then none else [false,true].findSome? (sa (fp l wd ht 0) l wd ht f used a i))=none:=by
     rw [List.findSome?_eq_none_iff];intro i hi;rw [if_pos (hall i (Je.1 hi))]
    rw [hnone];simp -implicitDefEqProofs [ha'];refine aE _ (dJ l.length (fun i=>[ints G,I (wd:Int),I (ht:Int),pcs l,z,I (a:Int),pcs l,I (l.length:Int),I (i:Int)]) (.ext 2 []) (fun i hi=>?_) ?_ rfl rfl) ?_
    ·have hw:Ix.wrap ((i:Int)+1)=(i:Int)+1:=ai (by omega) (by omega)
     have hi':(i:Int)<(l.length:Int):=by omega
     have hri:=tM hi;have hh:=hz.has (by omega) (i:Int);rw [decide_eq_true (hall i hi)] at hh;simp -implicitDefEqProofs [hi',hri,hh,hw]
    ·simp -implicitDefEqProofs
    ·simp -implicitDefEqProofs [jt]
 | succ k ih =>
  intro f used z hf hnd hin hz hk;have h8:=jo hl;have hrow:=hz.row (by omega);have b0:=qD hw8 hh8;have hlG:(an wd ht f).length=wd*ht:=gV wd ht f;have hput:=fun i hi t at_ hat=>xv wd ht hw1 hh1 hw8 hh8 l hl f hf i hi t at_ hat
  have hpok:∀(i:Nat),i<l.length→∀at_ t g,th l wd ht f (cb wd i at_ t)=some g→GOK wd ht g:=fun i hi at_ t g h=>GO hl hf hi h
  rw [jc];rw [show fp l wd ht (k+1+1) f used=if bG (an wd ht f)=wd*ht then(if used.length=l.length then some [] else none)
   else(II l.length).findSome? fun i:Nat=>if (i:Int)∈used then none else [false,true].findSome? (sa (fp l wd ht (k+1)) l wd ht f used (bG (an wd ht f)) i) from rfl]
  have hfa:bG (an wd ht f)≤(an wd ht f).length:=IZ;have hbef:∀i (h:i<(an wd ht f).length),i<bG (an wd ht f)→¬(an wd ht f)[i]<0:=fun i h hi=>by
   have:=List.not_of_lt_findIdx hi;simpa using this
  have haft:∀(h:bG (an wd ht f)<(an wd ht f).length),(an wd ht f)[bG (an wd ht f)]<0:=fun h=>by
   exact of_decide_eq_true (List.findIdx_getElem (p:=fun v=>decide (v<0)) (xs:=an wd ht f) (w:=h))
  generalize bG (an wd ht f)=a at *;generalize an wd ht f=G at *;refine aE _ (dJ a (fun i=>[ints G,I (wd:Int),I (ht:Int),pcs l,z,I (i:Int)]) (.ext 0 [ints G,I (wd:Int),I (ht:Int),pcs l,z,I (a:Int)]) (fun i hi=>?_) ?_ rfl rfl) ?_
  ·have hw:Ix.wrap ((i:Int)+1)=(i:Int)+1:=ai (by omega) (by omega)
   have hi2:i<G.length:=by omega
   have hi':(i:Int)<(G.length:Int):=by omega
   have hri:aF 1 (ints G) (I (i:Int))=some [I G[i]]:=by simp [hi2]
   have hb:=hbef i hi2 hi;have hb':0≤G[i]:=by omega
   generalize G[i]=v at *;simp -implicitDefEqProofs [hi',hri,hb',hw]
  ·by_cases ha:a<G.length
   ·have ha':(a:Int)<(G.length:Int):=by omega
    have hri:aF 1 (ints G) (I (a:Int))=some [I G[a]]:=by simp [ha]
    have hb:=haft ha;have hb':¬0≤G[a]:=by omega
    generalize G[a]=v at *;simp -implicitDefEqProofs [ha',hri,hb']
   ·have ha':¬(a:Int)<(G.length:Int):=by omega
    simp -implicitDefEqProofs [ha']
  ·by_cases ha:a=wd*ht
   ·have ha':(a:Int)=(G.length:Int):=by omega
    have e:¬used.length=l.length:=by omega
    have e':¬(used.length:Int)=(l.length:Int):=by omega
    rw [if_pos ha,if_neg e];simp -implicitDefEqProofs [ha',hrow.len,e',jt]
   ·have ha':¬(a:Int)=(G.length:Int):=by omega
    have halt:a<wd*ht:=by omega
    rw [if_neg ha];simp -implicitDefEqProofs [ha'];refine aE _ (pT (II l.length) (fun i=>[ints G,I (wd:Int),I (ht:Int),pcs l,z,I (a:Int),pcs l,I (l.length:Int),I (i:Int)]) (fun i:Nat=>(if (i:Int)∈used then none else [false,true].findSome? (sa (fp l wd ht (k+1)) l wd ht f used a i)).map fun q=>.ret [pls q,B true] []) (.ext 2 []) (fun i hi=>?_) ?_ (fun x r h=>?_) rfl rfl) ?_
    ·rw [Jm]
     have hi:i<l.length:=by simpa using hi
     have hw:Ix.wrap ((i:Int)+1)=(i:Int)+1:=ai (by omega) (by omega);have hi':(i:Int)<(l.length:Int):=by omega
     have hri:=tM hi;have hh:=hz.has (by omega) (i:Int);have hgd:l.getD i (0,0)=l[i]:=by rw [Jh,IV hi];rfl
     by_cases hu:(i:Int)∈used
     ·rw [decide_eq_true hu] at hh
      rw [if_pos hu];simp -implicitDefEqProofs [hi',hri,hh,hw]
     ·rw [decide_eq_false hu] at hh
      rw [if_neg hu];have hm2:aW 1 [D.v (IE false),D.v (IE true)]=some (.arr 1 [B false,B true]):=by simp [aW,kH]
      have hused:∀g:Gr,GOK wd ht g→ce (k+1) [ints (an wd ht g),I (wd:Int),I (ht:Int),pcs l,ints (used++[(i:Int)])]=some (.ret (jt (fp l wd ht (k+1) g (used++[(i:Int)]))) []):=fun g hg=>by
       refine ih g (used++[(i:Int)]) (ints (used++[(i:Int)])) hg ?_ (fun u hu'=>?_) (.inl rfl) (by rw [Jf];simp;omega)
       ·exact List.nodup_append.2 ⟨hnd,by simp,fun x hx y hy e=>hu (by rw [IW.1 hy] at e;exact e ▸ hx)⟩
       ·rcases Jd.1 hu' with h | h
        ·exact hin u h
        ·rw [IW.1 h]
         omega
      have hpt:=fun t=>hput i hi t a halt
      have hpk:=hpok i hi a;have hown:=hz.own (by omega);have ho:=mK (i:Int);have hap:=fU (l:=used) (m:=[(i:Int)]) (by simp;omega);have htm:=yr a wd;have htd:=yA a wd;have hYa:a / wd≤a:=Nat.div_le_self _ _;obtain⟨X,hX⟩:∃X,X=a % wd:=⟨_,rfl⟩
      obtain⟨Y,hY⟩:∃Y,Y=a / wd:=⟨_,rfl⟩
      rw [←hX] at htm;rw [←hY] at htd hYa;have hwd0:¬wd=0:=by omega
      have hwq:Ix.wrap (Y:Int)=(Y:Int):=ai (by omega) (by omega);have htry:∀t,sa (fp l wd ht (k+1)) l wd ht f used a i t=if t=true∧l[i].1=l[i].2 then none else
       match th l wd ht f (cb wd i a t) with
       | none=>none
       | some g=>(fp l wd ht (k+1) g (used++[(i:Int)])).map (cb wd i a t::·):=fun t=>by
       unfold sa;rw [hgd]
      have hfok:∀g q,fp l wd ht (k+1) g (used++[(i:Int)])=some q→q.length≤8:=fun g q h=>by
       have:=(tK l wd ht hw1 hw8 hh8 (k+1) _ _ _ h).1;omega
      obtain⟨S,hS⟩:∃S,S=[false,true].findSome? (sa (fp l wd ht (k+1)) l wd ht f used a i):=⟨_,rfl⟩
      rw [←hS];simp -implicitDefEqProofs [hi',hri,hh,hm2];generalize hpc:l[i]=pc at *;generalize fp l wd ht (k+1)=rec at *;refine aE _ (pT [false,true] (fun j=>[ints G,I (wd:Int),I (ht:Int),pcs l,z,I (a:Int),I (i:Int),pce pc,pcs l,I (l.length:Int),I (i:Int),.arr 1 [B false,B true],I 2,I (j:Int)]) (fun t=>(sa rec l wd ht f used a i t).map fun q=>.ret [pls q,B true] []) (.ext 4 [ints G,I (wd:Int),I (ht:Int),pcs l,z,I (a:Int),pcs l,I (l.length:Int),I (i:Int)]) (fun j hj=>?_) ?_ (fun x r h=>?_) rfl rfl) ?_
      ·have hj2:j<2:=by simpa using hj
       have hwj:Ix.wrap ((j:Int)+1)=(j:Int)+1:=ai (by omega) (by omega);have hj':(j:Int)<2:=by omega
       have hrj:aF 1 (.arr 1 [B false,B true]) (I (j:Int))=some [B [false,true][j]]:=by
        show aF 1 (.arr 1 ([false,true].map B)) (I (j:Int))=_
        rw [eP,Jn,IV hj];rfl
       generalize [false,true][j]=t at *;rw [htry t];have hptt:=hpt t;have hfld:mQ true 2 0 (pce pc)=some (pce pc):=by simp
       by_cases hsq:t=true∧pc.1=pc.2
       ·rw [if_pos hsq]
        obtain⟨rfl,hsq⟩:=hsq;simp -implicitDefEqProofs [hj',hrj,hsq,hwj,-eP]
       ·rw [if_neg hsq]
        have hgate:(t=true→¬pc.1=pc.2):=fun h1 h2=>hsq ⟨h1,h2⟩
        cases hpo:th l wd ht f (cb wd i a t) with
        | none =>
         rw [hpo] at hptt;obtain⟨u1,u2,u3⟩:=cu [] false;cases t
         ·simp -implicitDefEqProofs [hj',hrj,hwj,hfld,hptt,iD,u1,u3,-eP,-aA,-cj,-hZ]
         ·have hne:=hgate rfl
          simp -implicitDefEqProofs [hj',hrj,hne,hwj,hfld,hptt,iD,u1,u3,-eP,-aA,-cj,-hZ]
        | some g =>
         rw [hpo] at hptt;have hrec:=hused g (hpk t g hpo);have hfk:=hfok g;obtain⟨u1,u2,u3⟩:=cu (an wd ht g) true;have hb:=HL (i:Int) (X:Int) (Y:Int) t;have hmk:=HH ((i:Int),(X:Int),(Y:Int),t);have hpe:cb wd i a t=((i:Int),(X:Int),(Y:Int),t):=by rw [hX,hY]
         dsimp only;rw [hpe];generalize rec g (used++[(i:Int)])=res at *;cases res with
         | none =>
          obtain⟨v1,v2⟩:=vF [] false;cases t
          ·simp -implicitDefEqProofs [hj',hrj,hwj,hfld,hptt,iD,u1,u3,hown,ho,hap,hrec,jt,v1,v2,-eP,-aA,-cj,-hZ,-bO]
          ·have hne:=hgate rfl
           simp -implicitDefEqProofs [hj',hrj,hne,hwj,hfld,hptt,iD,u1,u3,hown,ho,hap,hrec,jt,v1,v2,-eP,-aA,-cj,-hZ,-bO]
         | some q =>
          obtain⟨v1,v2⟩:=vF q true;have hq8:=hfk q rfl;have hck:=BI q;have hpa:=BP (q:=[((i:Int),(X:Int),(Y:Int),t)]) (r:=q) (by simp;omega);rw [List.singleton_append] at hpa;cases t
          ·simp -implicitDefEqProofs [hj',hrj,hwj,hfld,hptt,iD,u1,u3,hown,ho,hap,hrec,jt,v1,v2,htm,htd,hwd0,hwq,hb,hmk,hck,hpa,-eP,-aA,-cj,-hZ,-bO]
          ·have hne:=hgate rfl
           simp -implicitDefEqProofs [hj',hrj,hne,hwj,hfld,hptt,iD,u1,u3,hown,ho,hap,hrec,jt,v1,v2,htm,htd,hwd0,hwq,hb,hmk,hck,hpa,-eP,-aA,-cj,-hZ,-bO]
      ·simp -implicitDefEqProofs
      ·cases hx:sa rec l wd ht f used a i x with
       | none=>rw [hx] at h;cases h
       | some q=>rw [hx] at h;cases h;rfl
      ·rw [mO,←hS]
       cases S with
       | none=>simp -implicitDefEqProofs [hw]
       | some q=>simp -implicitDefEqProofs
    ·simp -implicitDefEqProofs
    ·cases hx:(if (x:Int)∈used then none else [false,true].findSome? (sa (fp l wd ht (k+1)) l wd ht f used a x)) with
     | none=>rw [hx] at h;cases h
     | some q=>rw [hx] at h;cases h;rfl
    ·rw [mO]
     cases ((II l.length).findSome? fun i:Nat=>if (i:Int)∈used then none else [false,true].findSome? (sa (fp l wd ht (k+1)) l wd ht f used a i)) with
     | none=>simp -implicitDefEqProofs [jt]
     | some q=>simp -implicitDefEqProofs [jt]
set_option maxRecDepth 100000
def Ca (l:Ps):Int:=l.foldl (fun a p=>a+p.1*p.2) 0
theorem Gt {l:Ps} (hl:eT l=true) {p:Int × Int} (hp:p∈l):1≤p.1∧p.1≤8∧1≤p.2∧p.2≤8:=by
 unfold eT at hl;simp only [IH,Jp] at hl;have h2:=hl.1 p hp;simp only [aX,IH,decide_eq_true_eq] at h2;omega
theorem wa (l:Ps) (hl:eT l=true):jg [pcs l]=some (.ret [I (Ca l)] []):=by
 have h8:=jo hl;rw [wg];simp only [ca,IA,Iy];refine aE _ (iV l (fun i (a:Int)=>[I a,pcs l,I (l.length:Int),I (i:Int)]) (fun i a=>0≤a∧a≤64*(i:Int)) (fun _ a p=>a+p.1*p.2) (fun a=>.ext 0 [I a]) 0 (fun i a hi ha=>?_) (fun a ha=>?_) (fun _=>rfl) ⟨by omega,by omega⟩ rfl) ?_
 ·have hw:Ix.wrap ((i:Int)+1)=(i:Int)+1:=ai (by omega) (by omega)
  have hi':(i:Int)<(l.length:Int):=by omega
  have hri:=tM hi;obtain⟨s1,s2,s3,s4⟩:=Gt hl (IC hi);generalize l[i]=p at *;obtain⟨a1,a2⟩:=ha;have m1:0≤p.1*p.2:=Int.mul_nonneg (by omega) (by omega);have m2:p.1*p.2≤8*8:=Int.mul_le_mul s2 s4 (by omega) (by omega);have w1:Ix.wrap (p.1*p.2)=p.1*p.2:=ai (by omega) (by omega);have w2:Ix.wrap (a+p.1*p.2)=a+p.1*p.2:=ai (by omega) (by omega);refine⟨?_,by omega,by omega⟩
  simp -implicitDefEqProofs [hi',hri,w1,w2,hw]
 ·simp
 ·rw [fj]
  simp [Ca]
def AF (l:Ps) (q:List Pl):List Pl:=(II l.length).foldl (fun o (i:Nat)=>o++q.filter fun x=>decide (x.1=(i:Int))) []
theorem yK (q:List Pl) (n:Int):∀o:List Pl,q.foldl (fun o x=>if x.1=n then o++[x] else o) o=o++q.filter fun x=>decide (x.1=n):=by
 induction q with
 | nil=>intro o;simp
 | cons x q ih =>
  intro o;rw [List.foldl_cons,ih,List.filter_cons];by_cases h:x.1=n
  ·simp [h]
  ·simp [h]
theorem wN (q:List Pl):∀(n:Nat) (p:Pl),p∈(II n).foldl (fun o (i:Nat)=>o++q.filter fun x=>decide (x.1=(i:Int))) []→p∈q
 | 0,p,h=>by simp at h
 | n+1,p,h=>by
  rw [aP] at h;rcases Jd.1 h with h | h
  ·exact wN q n p h
  ·exact(List.mem_filter.1 h).1
theorem wZ (q:List Pl):∀(n:Nat),((II n).foldl (fun o (i:Nat)=>o++q.filter fun x=>decide (x.1=(i:Int))) []).length≤q.length*n
 | 0=>by simp
 | n+1=>by
  rw [aP,Jf,Nat.mul_add,Nat.mul_one];have:=wZ q n;have h2:=Jk (fun x:Pl=>decide (x.1=(n:Int))) q;omega
def sJ (l:Ps) (wd ht:Nat):Option (List Pl):=if Ca l=((wd*ht:Nat):Int) then(fp l wd ht (l.length+1) (fun _ _=>-1) []).map (AF l) else none
set_option maxHeartbeats 2000000 in
theorem vh (wd ht:Nat) (hw1:1≤wd) (hh1:1≤ht) (hw8:wd≤8) (hh8:ht≤8) (l:Ps) (hl:eT l=true):ib [I (wd:Int),I (ht:Int),pcs l]=some (.ret (jt (sJ l wd ht)) []):=by
 have h8:=jo hl;obtain⟨n0,hn0⟩:∃n0,n0=wd*ht:=⟨_,rfl⟩
 have b0:=qD hw8 hh8;have w0:Ix.wrap ((wd:Int)*(ht:Int))=(n0:Int):=by rw [hn0,Jc,ai]<;>rw [←Jc]<;>omega
 have hA:=wa l hl;rw [ux,hA];unfold sJ;rw [←hn0];by_cases hc:¬Ca l=(n0:Int)
 ·rw [if_neg hc]
  simp -implicitDefEqProofs [w0,hc,jt]
 rw [Jo] at hc;rw [if_pos hc];have hmk:yF 1 8 (D.v (IJ Ix 0)) (I (n0:Int)) (I (n0:Int))=some (.arr 1 (List.replicate n0 (I 0))):=by
  rw [zH,if_pos (by omega)]
 have hfl:(an wd ht fun _ _=>-1).length=n0:=by rw [gV,hn0]
 have hrun:=rE wd ht hw1 hh1 hw8 hh8 l hl l.length (fun _ _=>-1) [] (.arr 0 []) (GOK.free wd ht) List.nodup_nil (fun u hu=>by cases hu) (.inr ⟨rfl,rfl⟩) (by simp);have hfill:lW [ints (an wd ht fun _ _=>-1),I (wd:Int),I (ht:Int),pcs l,.arr 0 []]=some (.ret (jt (fp l wd ht (l.length+1) (fun _ _=>-1) [])) []):=BH (fun n=>xj n _ _ _ _ _) _ hrun;have hfok:=fun q h=>(tK l wd ht hw1 hw8 hh8 (l.length+1) (fun _ _=>-1) [] q h).1
 simp -implicitDefEqProofs only [aN,bA,tN,w0,Iy,qI,hc,decide_true,ID,dv,Iz,if_false,hmk,iN,cn,ca,List.length_replicate];refine aE _ (dJ n0 (fun i=>[I (wd:Int),I (ht:Int),pcs l,.ref 0 0,.arr 1 (iJ I (I 0) (an wd ht fun _ _=>-1) i),I (n0:Int),I (i:Int)]) (.ext 0 [I (wd:Int),I (ht:Int),pcs l,.ref 0 0,ints (an wd ht fun _ _=>-1)]) (fun i hi=>?_) ?_ rfl ?_) ?_
 ·have hw:Ix.wrap ((i:Int)+1)=(i:Int)+1:=ai (by omega) (by omega)
  have hi':(i:Int)<(n0:Int):=by omega
  have hi2:i<(an wd ht fun _ _=>-1).length:=by omega
  have hlen:=rB (f:=I) (z:=I 0) (l:=an wd ht fun _ _=>-1) (i:=i) (by omega);have hg:=wT (f:=I) (z:=I 0) hi2;have hx:(an wd ht fun _ _=>-1)[i]?=some (-1):=by
   unfold an;rw [Jn,List.getElem?_range (by omega)];rfl
  have hs:=wU (f:=I) (z:=I 0) hx;have hst:=vf (z:=1) (w:=.int .i64 0) (v:=.int .i64 (-1)) hg;rw [hs] at hst;have hrf:fR 1 (.arr 1 (iJ I (I 0) (an wd ht fun _ _=>-1) i)) (I (i:Int))=some (.ref i 0):=by rw [bK,if_pos (by omega)]
  generalize iJ I (I 0) (an wd ht fun _ _=>-1) i=L at *;simp -implicitDefEqProofs [hi',hrf,hst,hw,-bK]
 ·have h:=vu (f:=I) (z:=I 0) (l:=an wd ht fun _ _=>-1)
  rw [hfl] at h;simp -implicitDefEqProofs [h]
 ·have h:=ug (f:=I) (z:=I 0) (l:=an wd ht fun _ _=>-1)
  rw [hfl] at h;rw [h];rfl
 generalize fp l wd ht (l.length+1) (fun _ _=>-1) []=res at *;cases res with
 | none =>
  obtain⟨v1,v2⟩:=vF [] false;simp -implicitDefEqProofs [hfill,jt,v1,v2,-aA,-cj]
 | some q =>
  have hq:=hfok q rfl;obtain⟨v1,v2⟩:=vF q true;simp -implicitDefEqProofs [hfill,jt,v1,v2,-aA,-cj];refine aE _ (iV (II l.length) (fun i (o:List Pl)=>[pls q,pls o,I (l.length:Int),I (i:Int)]) (fun i o=>o.length≤9*i) (fun _ o (i:Nat)=>o++q.filter fun x=>decide (x.1=(i:Int))) (fun o=>.ext 2 [pls o]) [] (fun i o hi ho=>?_) (fun o ho=>?_) (fun _=>rfl) (IP _) rfl) ?_
  ·rw [Jm]
   have hi:i<l.length:=by simpa using hi
   have hw:Ix.wrap ((i:Int)+1)=(i:Int)+1:=ai (by omega) (by omega);have hi':(i:Int)<(l.length:Int):=by omega
   have hfl:=Jk (fun x:Pl=>decide (x.1=(i:Int))) q;refine⟨?_,by rw [Jf];omega⟩
   simp -implicitDefEqProofs only [bA,iF,xU,hi',decide_true,Iy,dv,if_true,ca,IA];refine aE _ (iV q (fun j (o:List Pl)=>[pls q,pls o,I (i:Int),I (l.length:Int),I (i:Int),pls q,I (q.length:Int),I (j:Int)]) (fun j o'=>o'.length≤o.length+j) (fun _ o x=>if x.1=(i:Int) then o++[x] else o) (fun o=>.ext 4 [pls q,pls o,I (l.length:Int),I (i:Int)]) o (fun j o' hj ho'=>?_) (fun o ho=>?_) (fun _=>rfl) (Jj _) rfl) ?_
   ·have hwj:Ix.wrap ((j:Int)+1)=(j:Int)+1:=ai (by omega) (by omega)
    have hj':(j:Int)<(q.length:Int):=by omega
    have hrj:=Ae hj;generalize q[j]=x at *;obtain⟨n,X,Y,t⟩:=x;have hmk2:=HH (n,X,Y,t);have hck:=BI [(n,X,Y,t)];have hap:=BP (q:=o') (r:=[(n,X,Y,t)]) (by simp;omega);by_cases c:n=(i:Int)
    ·subst c
     exact⟨by simp -implicitDefEqProofs [hj',hrj,hmk2,hck,hap,hwj,-bO],by simp;omega⟩
    ·exact⟨by simp -implicitDefEqProofs [hj',hrj,c,hwj],by simp [c];omega⟩
   ·simp -implicitDefEqProofs
   ·rw [fj,yK]
    simp -implicitDefEqProofs [hw]
  ·simp -implicitDefEqProofs
  ·rw [fj]
   simp -implicitDefEqProofs [AF]
set_option maxRecDepth 100000
structure Cur where
 code:List Int
 at_:Nat
 seed:Int
abbrev cR (l:List Int):D:=.arr 1 (l.map U)
abbrev dn (c:Cur):D:=.agg [cR c.code,I c.at_,.v (.int .u64 c.seed)]
structure Cur.ok (c:Cur) (B:Nat):Prop where
 by_:∀n∈c.code,0≤n∧n≤255
 len:c.code.length≤1048576
 at_:c.at_≤B
 lo:0≤c.seed
 hi:c.seed<18446744073709551616
theorem xr {k:IntKind} {n:Int}:pS (some .i64) false (.v (.int k n))=some (I (Ix.wrap n)):=rfl
theorem wz {k:IntKind} {n:Int}:pS (some .u64) false (.v (.int k n))=some (.v (.int .u64 (IQ.wrap n))):=rfl
theorem Cw {n:Int} {bl:Bool} {eq:List Nat}:bin .shr bl eq (.v (.int .u64 n)) (.v (.int .u64 40))=some (.v (.int .u64 (n.fdiv 1099511627776))):=by
 simp [bin,IntKind.bits]
theorem Gz {a b:Int} {bl:Bool} {eq:List Nat}:bin .and bl eq (.v (.int .u64 a)) (.v (.int .u64 b))=some (.v (.int .u64 (bits .and .u64 a b))):=by simp [bin,gj]
theorem GJ {n:Int} (h0:0≤n) (h1:n<18446744073709551616):0≤bits .and .u64 n 255∧bits .and .u64 n 255≤255:=by
 obtain⟨m,rfl⟩:=IB h0;have:=bits_and_u64_nat m 255 (by omega) (by omega);rw [show((255:Int))=((255:Nat):Int) from rfl,this];have h2:m &&& 255≤255:=Nat.and_le_right;omega
theorem Hc (n:Int):0≤IQ.wrap n∧IQ.wrap n<18446744073709551616:=by
 rw [IntKind.wrap_u64];omega
def lO (s n:Int):Int:=IQ.wrap (IQ.wrap (IQ.wrap (s*6364136223846793005)+IQ.wrap n)+1442695040888963407)
def sV (s:Int):Int:=bits .and .u64 (s.fdiv 1099511627776) 255
theorem gD (s n:Int):0≤lO s n∧lO s n<18446744073709551616:=Hc _
theorem yg {s:Int} (h0:0≤s) (h1:s<18446744073709551616):0≤sV s∧sV s≤255:=by
 unfold sV;rw [Int.fdiv_eq_ediv_of_nonneg _ (by omega)];exact GJ (by omega) (by omega)
theorem HG (c:Cur) (B:Nat) (h:c.ok B) (hB:B≤1000000000000) (hc:c.at_<c.code.length):ci [dn c]=some (.ret [I c.code[c.at_]] [dn ⟨c.code,c.at_+1,lO c.seed c.code[c.at_]⟩]):=by
 have hl:=h.len;have ha:=h.at_;have hw:Ix.wrap ((c.at_:Int)+1)=(c.at_:Int)+1:=ai (by omega) (by omega);have hn:=h.by_ c.code[c.at_] (IC hc);have hv:Ix.wrap c.code[c.at_]=c.code[c.at_]:=ai (by omega) (by omega);have hle:(c.at_:Int)+1≤(c.code.length:Int):=by omega
 rw [lk];simp -implicitDefEqProofs [hc,hw,hv,hle,xr,wz,lO]
theorem HV (c:Cur) (B:Nat) (h:c.ok B) (hB:B≤1000000000000) (hc:¬c.at_<c.code.length):ci [dn c]=some (.ret [I (sV (lO c.seed 0))] [dn ⟨c.code,c.at_+1,lO c.seed 0⟩]):=by
 have hl:=h.len;have ha:=h.at_;have hw:Ix.wrap ((c.at_:Int)+1)=(c.at_:Int)+1:=ai (by omega) (by omega);have hle:¬(c.at_:Int)+1≤(c.code.length:Int):=by omega
 have hq:=yg (gD c.seed 0).1 (gD c.seed 0).2;have hv:Ix.wrap (sV (lO c.seed 0))=sV (lO c.seed 0):=ai (by omega) (by omega);unfold sV lO at hv;rw [lk];simp -implicitDefEqProofs [hc,hw,hle,xr,wz,Cw,Gz,hv,lO,sV]
theorem Fa (c:Cur) (B:Nat) (h:c.ok B) (hB:B≤1000000000000):∃v c',ci [dn c]=some (.ret [I v] [dn c'])∧0≤v∧v≤255∧c'.ok (B+1):=by
 have ha:=h.at_;by_cases hc:c.at_<c.code.length
 ·have hn:=h.by_ c.code[c.at_] (IC hc)
  exact⟨_,_,HG c B h hB hc,hn.1,hn.2,⟨h.by_,h.len,Jq ha,(gD _ _).1,(gD _ _).2⟩⟩
 ·have hq:=yg (gD c.seed 0).1 (gD c.seed 0).2
  exact⟨_,_,HV c B h hB hc,hq.1,hq.2,⟨h.by_,h.len,Jq ha,(gD _ _).1,(gD _ _).2⟩⟩
theorem kC (c:Cur) (n:Int) (B:Nat) (h:c.ok B) (hB:B≤100000000000) (hn:n≤1000000000):∃v c',aC [dn c,I n]=some (.ret [I v] [dn c'])∧0≤v∧(v<n∨v=0)∧c'.ok (B+2):=by
 rw [rN];by_cases h1:n≤1
 ·exact⟨0,c,by simp [h1],by omega,.inr rfl,⟨h.by_,h.len,by have:=h.at_;omega,h.lo,h.hi⟩⟩
 obtain⟨v,c1,e1,l1,u1,k1⟩:=Fa c B h (by omega);have hn0:¬n=0:=by omega
 by_cases h2:200<n
 ·obtain⟨v2,c2,e2,l2,u2,k2⟩:=Fa c1 (B+1) k1 (by omega)
  have w1:Ix.wrap (v*256)=v*256:=ai (by omega) (by omega);have w2:Ix.wrap (v*256+v2)=v*256+v2:=ai (by omega) (by omega);refine⟨(v*256+v2).tmod n,c2,by simp [h1,h2,e1,e2,w1,w2,hn0],Int.tmod_nonneg _ (by omega),.inl (Int.tmod_lt_of_pos _ (by omega)),k2⟩
 ·refine⟨v.tmod n,c1,by simp [h1,h2,e1,hn0],Int.tmod_nonneg _ l1,.inl (Int.tmod_lt_of_pos _ (by omega)),⟨k1.by_,k1.len,by have:=k1.at_;omega,k1.lo,k1.hi⟩⟩
theorem wK (c:Cur) (n:Int) (B:Nat) (h:c.ok B) (hB:B≤100000000000) (hn:n≤1000000000):∃(b:Bool) (c':Cur),bH [dn c,I n]=some (.ret [.v (.bool b)] [dn c'])∧c'.ok (B+2):=by
 rw [sH];obtain⟨v,c1,e1,l1,u1,k1⟩:=kC c n B h hB hn;exact⟨_,c1,by simp [e1];rfl,k1⟩
abbrev yP (l:List Int):D:=.arr 1 (l.map I)
theorem pb (c:Cur) (l:List Int) (B:Nat) (h:c.ok B) (hB:B≤100000000000) (hl:l≠[]) (hn:l.length≤1000000000):∃v c',aR [dn c,yP l]=some (.ret [I v] [dn c'])∧v∈l∧c'.ok (B+2):=by
 rw [qy];have hp:0<l.length:=List.length_pos_iff.2 hl;obtain⟨v,c1,e1,l1,u1,k1⟩:=kC c l.length B h hB (by omega);obtain⟨i,rfl⟩:=IB l1;have hi:i<l.length:=by omega
 exact⟨l[i],c1,by simp [e1,hi],IC hi,k1⟩
theorem Cur.ok.mono {c:Cur} {B C:Nat} (h:c.ok B) (hBC:B≤C):c.ok C:=⟨h.by_,h.len,Nat.le_trans h.at_ hBC,h.lo,h.hi⟩
theorem Br {l:List Int}:aW 1 (l.map I)=some (yP l):=by
 have:kH 1 (l.map I).length (l.map I)=true:=by
  unfold kH;simp
 simp only [aW,this,if_true]
theorem Bl (a b:List Int):∃p:Bool,nb [cR a,cR b]=some (.ret [B p] [])∧(p=false→a.length≤1048576∧b.length≤1048576):=by
 rw [AR];by_cases h1:1048576<(a.length:Int)
 ·exact⟨true,by simp [h1],fun h=>by cases h⟩
 have hw:Ix.wrap (1048576 - (a.length:Int))=1048576 - (a.length:Int):=ai (by omega) (by omega);by_cases h2:1048576 - (a.length:Int)<(b.length:Int)
 ·exact⟨true,by simp [h1,h2,hw],fun h=>by cases h⟩
 ·exact⟨false,by simp [h1,h2,hw],fun _=>by omega⟩
theorem Df (l:List Int):lX [(0,1)] [D.arr 1 [],I 0,D.v (.int .u64 0)] [cR l]=some (.agg [cR l,I 0,D.v (.int .u64 0)]):=by
 simp [lX,sZ]
structure Bytes (l:List Int):Prop where
 by_:∀n∈l,0≤n∧n≤255
 len:l.length≤1048576
theorem Ir {l:List Int} (h:Bytes l):Cur.ok ⟨l,0,0⟩ 0:=⟨h.by_,h.len,Jj _,Int.le_refl 0,show(0:Int)<18446744073709551616 by decide⟩
set_option maxRecDepth 100000
theorem GV (a b c d:Int):aW 1 [I a,I b,I c,I d]=some (yP [a,b,c,d]):=Br (l:=[a,b,c,d])
theorem Hu (a b c:Int):aW 1 [I a,I b,I c]=some (yP [a,b,c]):=Br (l:=[a,b,c])
theorem EB (c:Cur) (B:Nat) (h:c.ok B) (hB:B≤10000000000):∃v c',dD [dn c]=some (.ret [I v] [dn c'])∧0≤v∧v≤9∧c'.ok (B+4):=by
 obtain⟨v1,c1,e1,m1,k1⟩:=pb c [1,0,9,3] B h (by omega) (by simp) (by simp);obtain⟨v2,c2,e2,m2,k2⟩:=pb c1 [2,3,4,5,6,3,4,8,v1] (B+2) k1 (by omega) (by simp) (by simp);have h1:=GV 1 0 9 3;have h2:aW 1 [I 2,I 3,I 4,I 5,I 6,I 3,I 4,I 8,I v1]=some (yP [2,3,4,5,6,3,4,8,v1]):=Br (l:=[2,3,4,5,6,3,4,8,v1]);refine⟨v2,c2,?_,?_,?_,k2⟩
 ·rw [qH]
  simp -implicitDefEqProofs only [eQ,cn,Iy,h1,fb,e1,aN,bA,h2,e2]
 ·simp at m1 m2
  omega
 ·simp at m1 m2
  omega
theorem wt (a b:Int):lX [(0,1),(1,1)] [D.v (IJ Ix 0),D.v (IJ Ix 0)] [I a,I b]=some (pce (a,b)):=by simp [lX,sZ]
theorem Gp (p:Int × Int):aW 2 [pce p]=some (pcs [p]):=by simp [aW,kH]
theorem GD (p q:Int × Int):aW 2 [pce p,pce q]=some (pcs [p,q]):=by simp [aW,kH]
theorem Cf (l:Ps):gT (pcs l)=some (pcs l):=nX fun p=>rfl
theorem BK {l m:Ps} (h:l.length+m.length≤1048577):ew 2 16 (pcs l) (pcs m)=some (pcs (l++m)):=by
 rw [bO,if_pos (by simp only [IA];omega)];simp
theorem EM {l:Ps} {j:Nat} (h:j<l.length):fR 2 (pcs l) (I (j:Int))=some (.ref j 0):=by rw [bK,if_pos (by rw [IA];exact h)]
theorem HK {l:Ps} {j:Nat} (h:j<l.length):atD (pcs l) (.ref j 0)=some [I l[j].1,I l[j].2]:=by simp [h]
theorem HD {l:Ps} {j:Nat} (h:j<l.length):atD (pcs l) (.ref j 1)=some [I l[j].2]:=by simp [h]
theorem HC {l:Ps} {j:Nat} (h:j<l.length) (a:Int):stD 1 (pcs l) (.ref j 0) (I a)=some (pcs (l.set j (a,l[j].2))):=by
 rw [oq (c:=[I l[j].1,I l[j].2]) (by simp [h]) (by simp)];show some (D.arr 2 ((l.map pce).set j (pce (a,l[j].2))))=some (D.arr 2 ((l.set j (a,l[j].2)).map pce))
 rw [IX]
theorem Ii {l:Ps} {j:Nat} (h:j<l.length) (a:Int):stD 1 (pcs l) (.ref j 1) (I a)=some (pcs (l.set j (l[j].1,a))):=by
 rw [oq (c:=[I l[j].1,I l[j].2]) (by simp [h]) (by simp)];show some (D.arr 2 ((l.map pce).set j (pce (l[j].1,a))))=some (D.arr 2 ((l.set j (l[j].1,a)).map pce))
 rw [IX]
theorem Il {l:Ps} {j:Nat} (h:j<l.length) (x:Int × Int):stD 2 (pcs l) (.ref j 0) (pce x)=some (pcs (l.set j x)):=by
 have e:=FN (n:=2) (z:=2) (L:=l.map pce) (i:=j) (c:=[I l[j].1,I l[j].2]) (v:=[I x.1,I x.2]) (by simp [h]) rfl rfl rfl;refine e.trans ?_
 show some (D.arr 2 ((l.map pce).set j (pce x)))=some (D.arr 2 ((l.set j x).map pce))
 rw [IX]
def iU (l:Ps):Prop:=∀p∈l,(1≤p.1∧p.1≤8)∧1≤p.2∧p.2≤8
theorem rU {l:Ps} (h:iU l) {x:Int × Int} (hx:(1≤x.1∧x.1≤8)∧1≤x.2∧x.2≤8) (j:Nat):iU (l.set j x):=fun p hp=>by
 rcases Ji hp with hp | rfl
 ·exact h p hp
 ·exact hx
theorem vo {l:Ps} (h:iU l) {x:Int × Int} (hx:(1≤x.1∧x.1≤8)∧1≤x.2∧x.2≤8):iU (l++[x]):=fun p hp=>by
 rcases Jd.1 hp with hp | hp
 ·exact h p hp
 ·rw [IW.1 hp]
  exact hx
set_option maxHeartbeats 2000000 in
theorem FA (c:Cur) (w h:Int) (B:Nat) (hc:c.ok B) (hB:B≤10000000000) (hw:1≤w∧w≤8) (hh:1≤h∧h≤8):∃l c',eA [dn c,I w,I h]=some (.ret [pcs l] [dn c'])∧iU l∧1≤l.length∧l.length≤8∧c'.ok (B+100):=by
 obtain⟨v0,c0,e0,l0,u0,k0⟩:=kC c 6 B hc (by omega) (by omega);obtain⟨n0,rfl⟩:=IB l0;have hb:=wt w h;have hm:=Gp (w,h);rw [qt];simp -implicitDefEqProofs only [hb,hm,Iy,eQ,fb,e0,aN,bA];refine bo (fun r=>∃l c',r=some (.ret [pcs l] [dn c'])∧iU l∧1≤l.length∧l.length≤8∧c'.ok (B+100)) (fun s:Cur × Ps × Nat=>[dn s.1,pcs s.2.1,I (s.2.2:Int)])
  (fun s=>s.2.2≤6∧s.1.ok (B+2+6*(6 - s.2.2))∧iU s.2.1∧1≤s.2.1.length∧s.2.1.length≤8) (fun s=>s.2.2) (fun o=>∃l c',o = .ext 0 [dn c',pcs l]∧iU l∧1≤l.length∧l.length≤8∧c'.ok (B+40)) (fun s hs=>?_) (c0,[(w,h)],n0)
  ⟨by show n0≤6;omega,k0.mono (by omega),(fun p hp=>by rw [IW.1 hp];exact⟨hw,hh⟩),by simp,by simp⟩ rfl (fun o ho=>?_)
 ·obtain⟨c,l,n⟩:=s
  obtain⟨h1,h2,h3,h4,h5⟩:=hs;replace h1:n≤6:=h1;replace h2:c.ok (B+2+6*(6 - n)):=h2;replace h3:iU l:=h3;replace h4:1≤l.length:=h4;replace h5:l.length≤8:=h5;have hwn:Ix.wrap ((n:Int) - 1)=(n:Int) - 1:=ai (by omega) (by omega);by_cases hgo:0<n∧l.length<8
  ·obtain⟨g1,g2⟩:=hgo
   have g1':(0:Int)<(n:Int):=by omega
   have g2':(l.length:Int)<8:=by omega
   obtain⟨v1,c1,e1,l1,u1,k1⟩:=kC c (l.length:Int) _ h2 (by omega) (by omega);obtain⟨j,rfl⟩:=IB l1;have hj:j<l.length:=by omega
   obtain⟨b2,c2,e2,k2⟩:=wK c1 2 _ k1 (by omega) (by omega);have hsj:=h3 l[j] (IC hj);have r1:=EM hj;have r2:=HK hj;have r3:=HC hj;have r4:=Ii hj;have hn1:∃m:Nat,n=m+1:=⟨n - 1,by omega⟩
   obtain⟨m,rfl⟩:=hn1;have hnm:((m+1:Nat):Int) - 1=(m:Int):=by omega
   rw [hnm] at hwn;generalize hp:l[j]=p at *;obtain⟨pw,ph⟩:=p;simp only at hsj r2 r3 r4;have cutW:∀c2:Cur,c2.ok (B+2+6*(6 - (m+1))+2+2)→1<pw→∃v3 c3,aC [dn c2,I (Ix.wrap (pw - 1))]=some (.ret [I v3] [dn c3])∧Ix.wrap (1+v3)=1+v3∧Ix.wrap (pw - (1+v3))=pw - (1+v3)∧(1≤1+v3∧1+v3≤8)∧(1≤pw - (1+v3)∧pw - (1+v3)≤8)∧c3.ok (B+2+6*(6 - m)):=fun c2 hk hpw=>by
    have hwp:Ix.wrap (pw - 1)=pw - 1:=ai (by omega) (by omega);obtain⟨v3,c3,e3,l3,u3,k3⟩:=kC c2 (pw - 1) _ hk (by omega) (by omega);exact⟨v3,c3,by rw [hwp];exact e3,ai (by omega) (by omega),ai (by omega) (by omega),by omega,by omega,k3.mono (by omega)⟩
   have cutH:∀c2:Cur,c2.ok (B+2+6*(6 - (m+1))+2+2)→1<ph→∃v3 c3,aC [dn c2,I (Ix.wrap (ph - 1))]=some (.ret [I v3] [dn c3])∧Ix.wrap (1+v3)=1+v3∧Ix.wrap (ph - (1+v3))=ph - (1+v3)∧(1≤1+v3∧1+v3≤8)∧(1≤ph - (1+v3)∧ph - (1+v3)≤8)∧c3.ok (B+2+6*(6 - m)):=fun c2 hk hpw=>by
    have hwp:Ix.wrap (ph - 1)=ph - 1:=ai (by omega) (by omega);obtain⟨v3,c3,e3,l3,u3,k3⟩:=kC c2 (ph - 1) _ hk (by omega) (by omega);exact⟨v3,c3,by rw [hwp];exact e3,ai (by omega) (by omega),ai (by omega) (by omega),by omega,by omega,k3.mono (by omega)⟩
   by_cases hA:b2=true∧1<pw
   ·obtain⟨rfl,hpw⟩:=hA
    obtain⟨v3,c3,e3,w1,w2,q1,q2,k3⟩:=cutW c2 k2 hpw;have hm2:=Gp (pw - (1+v3),ph);have hck:=Cf [(pw - (1+v3),ph)];have hap:=BK (l:=l.set j (1+v3,ph)) (m:=[(pw - (1+v3),ph)]) (by simp;omega);have hst:=r3 (1+v3);refine .inl ⟨(c3,l.set j (1+v3,ph)++[(pw - (1+v3),ph)],m),?_,⟨by show m≤6;omega,k3,vo (rU h3 ⟨q1,hsj.2⟩ j) ⟨q2,hsj.2⟩,by simp,by simp;omega⟩,by show m<m+1;omega⟩
    simp -implicitDefEqProofs [g1',g2',e1,r1,r2,e2,hpw,e3,w1,w2,hst,hm2,hck,hap,hwn,-bK,-ir,-bO]
   ·by_cases hB2:1<ph
    ·obtain⟨v3,c3,e3,w1,w2,q1,q2,k3⟩:=cutH c2 k2 hB2
     have hm2:=Gp (pw,ph - (1+v3));have hck:=Cf [(pw,ph - (1+v3))];have hap:=BK (l:=l.set j (pw,1+v3)) (m:=[(pw,ph - (1+v3))]) (by simp;omega);have hst:=r4 (1+v3);refine .inl ⟨(c3,l.set j (pw,1+v3)++[(pw,ph - (1+v3))],m),?_,⟨by show m≤6;omega,k3,vo (rU h3 ⟨hsj.1,q1⟩ j) ⟨hsj.1,q2⟩,by simp,by simp;omega⟩,by show m<m+1;omega⟩
     cases b2
     ·simp -implicitDefEqProofs [g1',g2',e1,r1,r2,e2,hB2,e3,w1,w2,hst,hm2,hck,hap,hwn,-bK,-ir,-bO]
     ·have hpw:¬1<pw:=fun h=>hA ⟨rfl,h⟩
      simp -implicitDefEqProofs [g1',g2',e1,r1,r2,e2,hpw,hB2,e3,w1,w2,hst,hm2,hck,hap,hwn,-bK,-ir,-bO]
    ·refine .inl ⟨(c2,l,m),?_,⟨by show m≤6;omega,(show c2.ok (B+2+6*(6 - m)) from k2.mono (by omega)),h3,h4,h5⟩,by show m<m+1;omega⟩
     cases b2
     ·simp -implicitDefEqProofs [g1',g2',e1,r1,r2,e2,hB2,hwn,-bK,-ir,-bO]
     ·have hpw:¬1<pw:=fun h=>hA ⟨rfl,h⟩
      simp -implicitDefEqProofs [g1',g2',e1,r1,r2,e2,hpw,hB2,hwn,-bK,-ir,-bO]
  ·refine .inr ⟨.ext 0 [dn c,pcs l],?_,rfl,l,c,rfl,h3,h4,h5,h2.mono (by omega)⟩
   by_cases g1:0<n
   ·have g1':(0:Int)<(n:Int):=by omega
    have g2':¬(l.length:Int)<8:=by omega
    simp -implicitDefEqProofs [g1',g2',g1]
   ·have g1':¬(0:Int)<(n:Int):=by omega
    simp -implicitDefEqProofs [g1',g1]
 ·obtain⟨l,c',rfl,h1,h2,h3,h4⟩:=ho
  simp -implicitDefEqProofs only [oD,yE,Nat.beq_refl,if_true,bA,iF,iN,cn,Iy,ca,IA];refine bo (fun r=>∃l c',r=some (.ret [pcs l] [dn c'])∧iU l∧1≤l.length∧l.length≤8∧c'.ok (B+100)) (fun s:Cur × Ps × Nat=>[dn s.1,pcs s.2.1,I (l.length:Int),I (s.2.2:Int)])
   (fun s=>s.2.2≤l.length∧s.1.ok (B+40+2*s.2.2)∧iU s.2.1∧s.2.1.length=l.length) (fun s=>l.length - s.2.2) (fun o=>∃l' c',o = .ext 3 [dn c',pcs l']∧iU l'∧l'.length=l.length∧c'.ok (B+100)) (fun s hs=>?_) (c',l,0) ⟨IP _,h4,h1,rfl⟩ rfl (fun o ho=>?_)
  ·obtain⟨c,m,i⟩:=s
   obtain⟨g1,g2,g3,g4⟩:=hs;replace g1:i≤l.length:=g1;replace g2:c.ok (B+40+2*i):=g2;replace g3:iU m:=g3;replace g4:m.length=l.length:=g4;have hwi:Ix.wrap ((i:Int)+1)=(i:Int)+1:=ai (by omega) (by omega);by_cases hi:i<l.length
   ·have hi':(i:Int)<(l.length:Int):=by omega
    have him:i<m.length:=by omega
    obtain⟨b,c1,e1,k1⟩:=wK c 3 _ g2 (by omega) (by omega);have r1:=EM him;have r2:=HK him;have r3:=HD him;have r4:=Il him (m[i].2,m[i].1);have hs:=g3 m[i] (IC him);have hb:=wt m[i].2 m[i].1;cases b
    ·refine .inl ⟨(c1,m,i+1),?_,⟨by show i+1≤l.length;omega,(show c1.ok (B+40+2*(i+1)) from k1.mono (by omega)),g3,g4⟩,by show l.length - (i+1)<l.length - i;omega⟩
     simp -implicitDefEqProofs [hi',e1,hwi]
    ·refine .inl ⟨(c1,m.set i (m[i].2,m[i].1),i+1),?_,⟨by show i+1≤l.length;omega,(show c1.ok (B+40+2*(i+1)) from k1.mono (by omega)),rU g3 ⟨hs.2,hs.1⟩ i,by show(m.set i (m[i].2,m[i].1)).length=l.length;rw [Jt];exact g4⟩,by show l.length - (i+1)<l.length - i;omega⟩
     generalize m[i]=p at *;obtain⟨pw,ph⟩:=p;simp -implicitDefEqProofs [hi',e1,r1,r2,r3,hb,r4,hwi,-bK,-ir]
   ·have hi':¬(i:Int)<(l.length:Int):=by omega
    refine .inr ⟨.ext 3 [dn c,pcs m],?_,rfl,m,c,rfl,g3,g4,g2.mono (by omega)⟩
    simp -implicitDefEqProofs [hi']
  ·obtain⟨l',c2,rfl,g1,g2,g3⟩:=ho
   exact⟨l',c2,by simp -implicitDefEqProofs,g1,by omega,by omega,g3⟩
theorem Dq (c:Cur) (w h:Int) (B:Nat) (hc:c.ok B) (hB:B≤1000000000):∃l c',dX [dn c,I w,I h]=some (.ret [pcs l] [dn c'])∧l.length≤10∧c'.ok (B+200):=by
 have b1:=wt 1 2;have b2:=wt 2 2;have b3:=wt 1 1;have b4:=wt 5 1;have m1:=GD (1,2) (2,2);have m2:=Gp (1,1);have m3:=GD (2,2) (5,1);have s1:=dO w;have s2:=dO h;rw [pB];cases hw:aX w
 ·rw [hw] at s1
  simp -implicitDefEqProofs [s1,b1,b2,m1];exact⟨[(1,2),(2,2)],c,⟨rfl,rfl,rfl,rfl⟩,by simp,hc.mono (by omega)⟩
 cases hh:aX h
 ·rw [hw] at s1
  rw [hh] at s2;simp -implicitDefEqProofs [s1,s2,b1,b2,m1];exact⟨[(1,2),(2,2)],c,⟨rfl,rfl,rfl,rfl⟩,by simp,hc.mono (by omega)⟩
 rw [hw] at s1;rw [hh] at s2;obtain⟨b,c1,e1,k1⟩:=wK c 12 B hc (by omega) (by omega);cases b
 ·have hw':1≤w∧w≤8:=by simpa [aX] using hw
  have hh':1≤h∧h≤8:=by simpa [aX] using hh
  obtain⟨l,c2,e2,q1,q2,q3,k2⟩:=FA c1 w h _ k1 (by omega) hw' hh';obtain⟨v3,c3,e3,l3,u3,k3⟩:=kC c2 (l.length:Int) _ k2 (by omega) (by omega);obtain⟨j,rfl⟩:=IB l3;have hj:j<l.length:=by omega
  obtain⟨v4,c4,e4,l4,u4,k4⟩:=kC c3 16 _ k3 (by omega) (by omega);have r1:=EM hj;by_cases a0:v4=0
  ·subst a0
   obtain⟨v5,c5,e5,q5,k5⟩:=pb c4 [0,8,9,1] _ k4 (by omega) (by simp) (by simp);have ha:=GV 0 8 9 1;have r2:=HC hj v5;refine⟨l.set j (v5,l[j].2),c5,?_,by simp;omega,k5.mono (by omega)⟩
   simp -implicitDefEqProofs [s1,s2,e1,e2,e3,e4,ha,e5,r1,r2,-bK]
  by_cases a1:v4=1
  ·subst a1
   have hck:=Cf [(1,1)];have hap:=BK (l:=l) (m:=[(1,1)]) (by simp;omega);refine⟨l++[(1,1)],c4,?_,by simp;omega,k4.mono (by omega)⟩
   simp -implicitDefEqProofs [s1,s2,e1,e2,e3,e4,b3,m2,hck,hap,-bO]
  by_cases a2:v4=2
  ·subst a2
   obtain⟨v5,c5,e5,l5,u5,k5⟩:=kC c4 2 _ k4 (by omega) (by omega);obtain⟨n5,rfl⟩:=IB l5;have w5:Ix.wrap (8+(n5:Int))=((8+n5:Nat):Int):=by rw [ai (by omega) (by omega)];omega
   obtain⟨n6,hn6⟩:∃n6,n6=8+n5:=⟨_,rfl⟩
   rw [←hn6] at w5;simp -implicitDefEqProofs [s1,s2,e1,e2,e3,e4,e5,w5];refine bo (fun r=>∃l c',r=some (.ret [pcs l] [dn c'])∧l.length≤10∧c'.ok (B+200)) (fun m:Ps=>[dn c5,pcs m,I (n6:Int)]) (fun m=>m.length≤n6) (fun m=>n6 - m.length) (fun o=>∃m:Ps,o = .ext 1 [dn c5,pcs m]∧m.length≤10) (fun m hm=>?_) l (by omega) rfl (fun o ho=>?_)
   ·have hck:=Cf [(1,1)]
    have hap:=BK (l:=m) (m:=[(1,1)]) (by simp;omega);by_cases hlt:m.length<n6
    ·have hlt':(m.length:Int)<(n6:Int):=by omega
     exact .inl ⟨m++[(1,1)],by simp -implicitDefEqProofs [hlt',hlt,b3,m2,hck,hap,-bO],by simp;omega,by simp;omega⟩
    ·have hlt':¬(m.length:Int)<(n6:Int):=by omega
     exact .inr ⟨.ext 1 [dn c5,pcs m],by simp -implicitDefEqProofs [hlt',hlt],rfl,m,rfl,by omega⟩
   ·obtain⟨m,rfl,hm⟩:=ho
    exact⟨m,c5,by simp -implicitDefEqProofs,hm,k5.mono (by omega)⟩
  by_cases a3:v4=3
  ·subst a3
   refine⟨[(2,2),(5,1)],c4,?_,by simp,k4.mono (by omega)⟩
   simp -implicitDefEqProofs [s1,s2,e1,e2,e3,e4,b2,b4,m3]
  ·refine⟨l,c4,?_,by omega,k4.mono (by omega)⟩
   simp -implicitDefEqProofs [s1,s2,e1,e2,e3,e4,a0,a1,a2,a3]
 ·refine⟨[(1,2),(2,2)],c1,?_,by simp,k1.mono (by omega)⟩
  simp -implicitDefEqProofs [s1,s2,e1,b1,b2,m1]
set_option maxRecDepth 100000
theorem Ey (c:Cur):qp 3 (dn c)=some (dn c):=by simp
theorem Hy {q:List Pl} {k:Nat} (h:k<q.length):fR 4 (pls q) (I (k:Int))=some (.ref k 0):=by rw [bK,if_pos (by rw [IA];exact h)]
theorem HB {q:List Pl} {k:Nat} (h:k<q.length):atD (pls q) (.ref k 3)=some [B q[k].2.2.2]:=by simp [h]
theorem In {q:List Pl} {k:Nat} (h:k<q.length) (a:Int):stD 1 (pls q) (.ref k 0) (I a)=some (pls (q.set k (a,q[k].2.1,q[k].2.2.1,q[k].2.2.2))):=by
 rw [oq (c:=[I q[k].1,I q[k].2.1,I q[k].2.2.1,B q[k].2.2.2]) (by simp [h]) (by simp)];show some (D.arr 4 ((q.map plD).set k (plD (a,q[k].2.1,q[k].2.2.1,q[k].2.2.2))))=some (D.arr 4 ((q.set k (a,q[k].2.1,q[k].2.2.1,q[k].2.2.2)).map plD))
 rw [IX]
theorem Ik {q:List Pl} {k:Nat} (h:k<q.length) (a:Int):stD 1 (pls q) (.ref k 1) (I a)=some (pls (q.set k (q[k].1,a,q[k].2.2.1,q[k].2.2.2))):=by
 rw [oq (c:=[I q[k].1,I q[k].2.1,I q[k].2.2.1,B q[k].2.2.2]) (by simp [h]) (by simp)];show some (D.arr 4 ((q.map plD).set k (plD (q[k].1,a,q[k].2.2.1,q[k].2.2.2))))=some (D.arr 4 ((q.set k (q[k].1,a,q[k].2.2.1,q[k].2.2.2)).map plD))
 rw [IX]
theorem Ip {q:List Pl} {k:Nat} (h:k<q.length) (a:Bool):stD 1 (pls q) (.ref k 3) (B a)=some (pls (q.set k (q[k].1,q[k].2.1,q[k].2.2.1,a))):=by
 rw [oq (c:=[I q[k].1,I q[k].2.1,I q[k].2.2.1,B q[k].2.2.2]) (by simp [h]) (by simp)];show some (D.arr 4 ((q.map plD).set k (plD (q[k].1,q[k].2.1,q[k].2.2.1,a))))=some (D.arr 4 ((q.set k (q[k].1,q[k].2.1,q[k].2.2.1,a)).map plD))
 rw [IX]
def pZ (q:List Pl):Prop:=q.length≤100∧∀p∈q,(-1≤p.2.1∧p.2.1≤64) ∧ -1≤p.2.2.1∧p.2.2.1≤64
theorem pZ.ok {q:List Pl} (h:pZ q):qv q:=⟨by have:=h.1;omega,fun p hp=>by have:=h.2 p hp;omega⟩
theorem vc {q:List Pl} (h:pZ q) {x:Pl} (hx:(-1≤x.2.1∧x.2.1≤64) ∧ -1≤x.2.2.1∧x.2.2.1≤64) (k:Nat):pZ (q.set k x):=⟨by rw [Jt];exact h.1,fun p hp=>by
 rcases Ji hp with hp | rfl
 ·exact h.2 p hp
 ·exact hx⟩
theorem AW {l:Ps} {wd ht:Nat} (hl:eT l=true) (hw1:1≤wd) (hw8:wd≤8) (hh8:ht≤8) {q:List Pl} (h:sJ l wd ht=some q):pZ q:=by
 have h8:=jo hl;unfold sJ at h;split at h
 ·cases hr:fp l wd ht (l.length+1) (fun _ _=>-1) [] with
  | none=>rw [hr] at h;cases h
  | some r =>
   rw [hr] at h;simp only [Js,IY] at h;subst h;obtain⟨k1,k2⟩:=tK l wd ht hw1 hw8 hh8 _ _ _ _ hr;refine⟨?_,fun p hp=>?_⟩
   ·have h1:=wZ r l.length
    have h2:r.length*l.length≤9*8:=Nat.mul_le_mul (by omega) h8;unfold AF;omega
   ·have:=k2 p (wN r _ p hp)
    omega
 ·cases h
theorem GY {q:List Pl} {k:Nat} (h:k≤q.length):iC false 4 (pls q) (D.v (IJ Ix 0)) (I (k:Int))=some (pls (q.take k)):=by
 have:=vz (z:=4) (l:=q.map plD) (i:=0) (j:=k) (k:=.i64) (k':=.i64) (IP _) (by rw [IA];exact h);refine this.trans ?_
 simp [List.map_take]
theorem Ha {q:List Pl} {k:Nat} (h:k≤q.length):eW false 4 (pls q) (I (k:Int))=some (pls (q.drop k)):=by
 have:=sS (z:=4) (l:=q.map plD) (i:=k) (k:=.i64) (by rw [IA];exact h);refine this.trans ?_
 simp [List.map_drop]
set_option maxHeartbeats 2000000 in
theorem yJ (l:List Int) (hl:Bytes l):∃w h pl ps,cS [cR l]=some (.ret [I w,I h,pcs pl,pls ps] [])∧(0≤w∧w≤9)∧(0≤h∧h≤9)∧pl.length≤10∧pZ ps:=by
 have hb:=Df l;rw [show(D.agg [cR l,I 0,D.v (.int .u64 0)])=dn ⟨l,0,0⟩ from rfl] at hb;have hx:=Ey ⟨l,0,0⟩;obtain⟨w,c1,e1,w1,w2,k1⟩:=EB ⟨l,0,0⟩ 0 (Ir hl) (by omega);obtain⟨h,c2,e2,h1,h2,k2⟩:=EB c1 _ k1 (by omega);obtain⟨pl,c3,e3,p1,k3⟩:=Dq c2 w h _ k2 (by omega);have e4:=oN w h pl (by omega);rw [px];simp -implicitDefEqProofs only [hb,hx,Iy,eQ,cn,iN,fb,e1,e2,e3,e4,aN,bA,iF];cases hc:aX w&&aX h&&eT pl
 ·refine⟨w,h,pl,[],?_,⟨w1,w2⟩,⟨h1,h2⟩,p1,by simp,fun p hp=>by cases hp⟩
  simp -implicitDefEqProofs
 ·simp only [IH] at hc
  obtain⟨⟨hcw,hch⟩,hcp⟩:=hc;simp only [aX,decide_eq_true_eq] at hcw hch;obtain⟨wd,rfl⟩:=IB w1;obtain⟨ht,rfl⟩:=IB h1;have e5:=vh wd ht (by omega) (by omega) (by omega) (by omega) pl hcp;obtain⟨q,b,hq,hq0,hq1⟩:=Di (sJ pl wd ht);have hn:pZ q:=by
   cases hr:sJ pl wd ht with
   | none =>
    rw [(hq0 hr).1];exact⟨by simp,fun p hp=>by cases hp⟩
   | some r =>
    rw [(hq1 r hr).1];exact AW hcp (by omega) (by omega) (by omega) hr
  rw [hq] at e5;obtain⟨v1,v2⟩:=vF q b;simp -implicitDefEqProofs only [dv,if_true,e5,aN,v1,v2,Iy,iN,cn,ca,IA,qQ];by_cases hlen:¬(0:Int)<(q.length:Int)
  ·exact⟨wd,ht,pl,q,by simp -implicitDefEqProofs only [hlen,decide_false,dv,Iz,if_false],⟨w1,w2⟩,⟨h1,h2⟩,p1,hn⟩
  rw [Jo] at hlen;have hlenN:0<q.length:=by omega
  have hlen2:=hn.1;obtain⟨v6,c6,e6,l6,u6,k6⟩:=kC c3 (q.length:Int) _ k3 (by omega) (by omega);obtain⟨k,rfl⟩:=IB l6;have hk:k<q.length:=by omega
  obtain⟨v7,c7,e7,l7,u7,k7⟩:=kC c6 8 _ k6 (by omega) (by omega);have hnk:=hn.2 q[k] (IC hk);have r1:=Hy hk;by_cases a0:v7=0
  ·subst a0
   have t1:=GY (q:=q) (k:=k) (by omega);have t2:=Ha (q:=q) (k:=k+1) (by omega);have hwk:Ix.wrap ((k:Int)+1)=((k+1:Nat):Int):=by rw [ai (by omega) (by omega)];omega
   have x1:=BI (q.take k);have x2:=BI (q.drop (k+1));have y1:=BP (q:=[]) (r:=q.take k) (by simp;omega);have y2:=BP (q:=q.take k) (r:=q.drop (k+1)) (by simp;omega);rw [List.nil_append,show pls []=D.arr 4 [] from rfl] at y1;refine⟨wd,ht,pl,q.take k++q.drop (k+1),?_,⟨w1,w2⟩,⟨h1,h2⟩,p1,by simp;omega,fun p hp=>hn.2 p ?_⟩
   ·simp -implicitDefEqProofs only [hlen,decide_true,dv,if_true,e6,e7,aN,bA,Iy,eQ,fb,ru,ma,t1,x1,y1,tR,hwk,t2,x2,y2]
   ·rcases Jd.1 hp with hp | hp
    ·exact List.mem_of_mem_take hp
    ·exact List.mem_of_mem_drop hp
  by_cases a1:v7=1
  ·subst a1
   obtain⟨v8,c8,e8,m8,k8⟩:=pb c7 [0,1,(wd:Int),-1] _ k7 (by omega) (by simp) (by simp);have ha:=GV 0 1 (wd:Int) (-1);have r2:=Ik hk v8;refine⟨wd,ht,pl,q.set k (q[k].1,v8,q[k].2.2.1,q[k].2.2.2),?_,⟨w1,w2⟩,⟨h1,h2⟩,p1,vc (x:=(q[k].1,v8,q[k].2.2.1,q[k].2.2.2)) hn ⟨?_,hnk.2⟩ k⟩
   ·simp -implicitDefEqProofs [hlenN,e6,e7,ha,e8,r1,r2,-bK]
   ·simp at m8
    show -1≤v8∧v8≤64
    omega
  by_cases a2:v7=2
  ·subst a2
   have r2:=HB hk;have r3:=Ip hk (!q[k].2.2.2);refine⟨wd,ht,pl,q.set k (q[k].1,q[k].2.1,q[k].2.2.1,!q[k].2.2.2),?_,⟨w1,w2⟩,⟨h1,h2⟩,p1,vc (x:=(q[k].1,q[k].2.1,q[k].2.2.1,!q[k].2.2.2)) hn hnk k⟩
   simp -implicitDefEqProofs [hlenN,e6,e7,r1,r2,r3,-bK,-ir]
  by_cases a3:v7=3
  ·subst a3
   obtain⟨v8,c8,e8,m8,k8⟩:=pb c7 [0,(q.length:Int),-1] _ k7 (by omega) (by simp) (by simp);have ha:=Hu 0 (q.length:Int) (-1);have r2:=In hk v8;refine⟨wd,ht,pl,q.set k (v8,q[k].2.1,q[k].2.2.1,q[k].2.2.2),?_,⟨w1,w2⟩,⟨h1,h2⟩,p1,vc (x:=(v8,q[k].2.1,q[k].2.2.1,q[k].2.2.2)) hn hnk k⟩
   simp -implicitDefEqProofs [hlenN,e6,e7,ha,e8,r1,r2,-bK]
  ·refine⟨wd,ht,pl,q,?_,⟨w1,w2⟩,⟨h1,h2⟩,p1,hn⟩
   simp -implicitDefEqProofs [hlenN,e6,e7,a0,a1,a2,a3]
theorem yu (c:Cur) (n:Int) (B:Nat) (h:c.ok B) (hB:B≤1000000000) (hn:0≤n∧n≤9):∃r c',be [dn c,I n]=some (.ret [ints r] [dn c'])∧r.length≤20∧c'.ok (B+40):=by
 rw [py];refine bo (fun r=>∃l c',r=some (.ret [ints l] [dn c'])∧l.length≤20∧c'.ok (B+40)) (fun s:Cur × List Int × Nat=>[dn s.1,I n,ints s.2.1,I (s.2.2:Int)]) (fun s=>s.2.2≤12∧s.2.1.length≤s.2.2∧s.1.ok (B+2*s.2.2)) (fun s=>12 - s.2.2)
  (fun o=>∃(l:List Int) (c':Cur),o = .ext 0 [dn c',I n,ints l]∧l.length≤12∧c'.ok (B+24)) (fun s hs=>?_) (c,[],0) ⟨IP _,Jj _,h⟩ rfl (fun o ho=>?_)
 ·obtain⟨c,l,k⟩:=s
  obtain⟨h1,h2,h3⟩:=hs;replace h1:k≤12:=h1;replace h2:l.length≤k:=h2;replace h3:c.ok (B+2*k):=h3;have hwk:Ix.wrap ((k:Int)+1)=(k:Int)+1:=ai (by omega) (by omega);by_cases g1:(k:Int)<n
  ·have g2:(k:Int)<12:=by omega
   obtain⟨b,c1,e1,k1⟩:=wK c 2 _ h3 (by omega) (by omega);have ho:=mK (k:Int);have hck:=tU (k:Int);have hap:=fU (l:=l) (m:=[(k:Int)]) (by simp;omega);cases b
   ·exact .inl ⟨(c1,l,k+1),by simp -implicitDefEqProofs [g1,g2,e1,hwk],⟨by show k+1≤12;omega,by show l.length≤k+1;omega,(show c1.ok (B+2*(k+1)) from k1.mono (by omega))⟩,by show 12 - (k+1)<12 - k;omega⟩
   ·exact .inl ⟨(c1,l++[(k:Int)],k+1),by simp -implicitDefEqProofs [g1,g2,e1,hwk,ho,hck,hap,-bO],⟨by show k+1≤12;omega,by show(l++[(k:Int)]).length≤k+1;simp;omega,(show c1.ok (B+2*(k+1)) from k1.mono (by omega))⟩,by show 12 - (k+1)<12 - k;omega⟩
  ·refine .inr ⟨.ext 0 [dn c,I n,ints l],by simp -implicitDefEqProofs [g1],rfl,l,c,rfl,by omega,h3.mono (by omega)⟩
 ·obtain⟨l,c',rfl,h1,h2⟩:=ho
  obtain⟨b,c1,e1,k1⟩:=wK c' 16 _ h2 (by omega) (by omega);cases b
  ·exact⟨l,c1,by simp -implicitDefEqProofs [e1],by omega,k1.mono (by omega)⟩
  ·have hwn:Ix.wrap (n - 1)=n - 1:=ai (by omega) (by omega)
   obtain⟨v,c2,e2,m2,k2⟩:=pb c1 [n,n - 1,-1] _ k1 (by omega) (by simp) (by simp);have ha:=Hu n (n - 1) (-1);have ho:=mK v;have hck:=tU v;have hap:=fU (l:=l) (m:=[v]) (by simp;omega);exact⟨l++[v],c2,by simp -implicitDefEqProofs [e1,hwn,ha,e2,ho,hck,hap,-bO],by simp;omega,k2.mono (by omega)⟩
set_option maxRecDepth 100000
theorem vt (a b:Int) (l:Ps) (q:List Pl):al (D.tup [I a,I b,pcs l,pls q]) 0=some (I a)∧al (D.tup [I a,I b,pcs l,pls q]) 1=some (I b)∧al (D.tup [I a,I b,pcs l,pls q]) 2=some (pcs l)∧al (bS (D.tup [I a,I b,pcs l,pls q]) 2) 3=some (pls q):=⟨rfl,rfl,rfl,rfl⟩
theorem Eg (l:List Int) (hl:Bytes l):∃w h pl ps,cv [cR l]=some (.ret [I w,I h,pcs pl,pls ps] [])∧(0≤w∧w≤9)∧(0≤h∧h≤9)∧pl.length≤10∧pZ ps:=by
 obtain⟨w,h,pl,ps,e,k⟩:=yJ l hl;obtain⟨t1,t2,t3,t4⟩:=vt w h pl ps;refine⟨w,h,pl,ps,?_,k⟩
 rw [ny,e];simp -implicitDefEqProofs only [aN,t1,t2,t3,t4,Iy]
set_option maxHeartbeats 1000000 in
theorem DQ (l:List Int) (hl:Bytes l):∃w h pl ps d d' R R',cW [cR l]=some (.ret [I w,I h,pcs pl,pls ps,d,d'] [])∧(0≤w∧w≤9)∧(0≤h∧h≤9)∧pl.length≤10∧pZ ps∧QD d R∧R.length≤20∧QD d' R'∧R'.length≤20:=by
  have hb:=Df l;rw [show(D.agg [cR l,I 0,D.v (.int .u64 0)])=dn ⟨l,0,0⟩ from rfl] at hb;have hx:=Ey ⟨l,0,0⟩;obtain⟨w,h,pl,ps,e,hw,hh,hp,hn⟩:=yJ l hl;obtain⟨t1,t2,t3,t4⟩:=vt w h pl ps;have hst:stD 1 (dn ⟨l,0,0⟩) (.ref 0 1) (D.v (IJ Ix 9))=some (dn ⟨l,9,0⟩):=by
    simp -implicitDefEqProofs
  have hc:Cur.ok ⟨l,9,0⟩ 9:=⟨hl.by_,hl.len,Jj _,Int.le_refl 0,show(0:Int)<18446744073709551616 by decide⟩
  have quo:∀c:Cur,c.ok 20→∃d d' R R',(callK (be [dn c,I h]) fun rs us=>(ab (D.ref 0 0) (D.ref 0 0)).bind fun z=>(dB z (sl us 0)).bind fun i =>
 (ab i i).bind fun i=>callK (be [i,I w]) fun rs_1 _u=>some (Out.ret [I w,I h,pcs pl,pls ps,sl rs 0,sl rs_1 0] []))=some (.ret [I w,I h,pcs pl,pls ps,d,d'] [])∧QD d R∧R.length≤20∧QD d' R'∧R'.length≤20:=fun c hc=>by
    obtain⟨r1,c1,e1,q1,k1⟩:=yu c h _ hc (by omega) hh;obtain⟨r2,c2,e2,q2,k2⟩:=yu c1 w _ k1 (by omega) hw;exact⟨ints r1,ints r2,r1,r2,by simp -implicitDefEqProofs [e1,e2],.inl rfl,q1,.inl rfl,q2⟩
  have fin:∀X:Option Out,(∃d d' R R',X=some (.ret [I w,I h,pcs pl,pls ps,d,d'] [])∧QD d R∧R.length≤20∧QD d' R'∧R'.length≤20)→∃w h pl ps d d' R R',X=some (.ret [I w,I h,pcs pl,pls ps,d,d'] [])∧(0≤w∧w≤9)∧(0≤h∧h≤9)∧pl.length≤10∧pZ ps∧QD d R∧R.length≤20∧QD d' R'∧R'.length≤20:=fun X ⟨d,d',R,R',e,k⟩=>⟨w,h,pl,ps,d,d',R,R',e,hw,hh,hp,hn,k⟩
  refine fin _ ?_
  rw [mU];simp -implicitDefEqProofs only [hb,hx,e,Iy,eQ,aN,t1,t2,t3,t4,cn,Bq,Nat.zero_add,hst];have q0:=quo ⟨l,9,0⟩ (hc.mono (by omega));cases hch:cG w h pl ps with
  | none =>
    have e1:=(Ds (by omega) hn.ok hch).1.2;obtain⟨u1,u2,u3⟩:=cu [] false;rw [e1];simp -implicitDefEqProofs only [aN,cH,u1,u2,Iy,kL,rK,Iz,if_false,fC,dv,bA,iF,fb,eQ,cn];simpa -implicitDefEqProofs only [cn,fb,Iy] using q0
  | some f =>
    obtain⟨wd,ht,rfl,rfl,C⟩:=AK hch hn.ok;obtain⟨z,e1,hz⟩:=C.rows.2;have hzl:((gO wd ht f ps.length).getD []).length≤20:=by
      cases hf:gO wd ht f ps.length with
      | none=>simp
      | some q =>
        have:=(re C.h8 hf).2.2;simp;omega
    obtain⟨u1,u2⟩:=nU hz (gO wd ht f ps.length).isSome;rw [e1];simp -implicitDefEqProofs only [aN,u1,u2,Iy,kL];cases (gO wd ht f ps.length).isSome
    · simp -implicitDefEqProofs only [rK,Iz,if_false,fC,dv,bA,iF,fb,eQ,cn,Iy]
      simpa -implicitDefEqProofs only [cn,fb,Iy] using q0
    · obtain⟨b,c1,e2,k1⟩:=wK ⟨l,9,0⟩ 2 9 hc (by omega) (by omega)
      have q1:=quo c1 (k1.mono (by omega));simp -implicitDefEqProofs only [rK,if_true,fb,eQ,cn,Iy,e2,aN,bA,iF,eO,fC,dv];cases b
      · simp -implicitDefEqProofs only [Iz,if_false]
        simpa -implicitDefEqProofs only [cn,fb,Iy] using q1
      · obtain⟨z2,e3,hz2⟩:=C.cols.2
        have hzl2:((gO ht wd (bw f) ps.length).getD []).length≤20:=by
          cases hf:gO ht wd (bw f) ps.length with
          | none=>simp
          | some q =>
            have:=(re C.w8 hf).2.2;simp;omega
        obtain⟨u3,u4⟩:=nU hz2 (gO ht wd (bw f) ps.length).isSome;simp -implicitDefEqProofs only [if_true,e3,aN,u3,u4,Iy];cases (gO ht wd (bw f) ps.length).isSome
        · simp -implicitDefEqProofs only [dv,Iz,if_false]
          simpa -implicitDefEqProofs only [cn,fb,Iy] using q1
        · exact⟨z,z2,_,_,by simp -implicitDefEqProofs only [dv,if_true],hz,hzl,hz2,hzl2⟩
set_option maxRecDepth 100000
theorem BO (r:Option (List Int)):cH r=[ints (r.getD []),B r.isSome]:=by cases r<;>rfl
theorem CS {ps:List Pl} {A E:List Int} (h1:∀n∈ps.map (·.1),n∈A) (h2:∀n∈ps.map (·.1),n∈E):gi ps A E=[]:=by
 have h:∀n,¬n∈gi ps A E:=fun n hn=>by
  obtain⟨h3,h4⟩:=wQ.1 hn;exact h4 ⟨h1 n h3,h2 n h3⟩
 cases he:gi ps A E with
 | nil=>rfl
 | cons x l=>exact absurd (by rw [he];simp) (h x)
theorem Fo (a b:Int) (l:Ps) (q:List Pl) {d d':D} {R R':List Int} (h:QD d R) (h':QD d' R'):al (D.tup [I a,I b,pcs l,pls q,d,d']) 0=some (I a)∧al (D.tup [I a,I b,pcs l,pls q,d,d']) 1=some (I b)∧al (D.tup [I a,I b,pcs l,pls q,d,d']) 2=some (pcs l)∧al (D.tup [I a,I b,pcs l,pls q,d,d']) 3=some (pls q)∧al (D.tup [I a,I b,pcs l,pls q,d,d']) 4=some d∧al (D.tup [I a,I b,pcs l,pls q,d,d']) 5=some d':=by
 rcases h with rfl | ⟨rfl,_⟩<;>rcases h' with rfl | ⟨rfl,_⟩<;>exact⟨rfl,rfl,rfl,rfl,rfl,rfl⟩
theorem iP (l:List Int) (h:l.length≤1048576):bd [ints l,ints l]=some (.ret [B true] []):=jD (RowD.ints h) (RowD.ints h)
set_option maxHeartbeats 4000000 in
theorem lc (more:List Int) (hb2:∀n∈more,0≤n∧n≤255) (hl2:more.length≤1048576):(fun s=>callK (cv [sl s 0]) fun rs _u=>(al (D.tup rs) 0).bind fun z=>(al (D.tup rs) 1).bind fun z_42=>(al (D.tup rs) 2).bind fun y=>(al (bS (D.tup rs) 2) 3).bind fun y_4 =>
 callK (cK [z,z_42,y,y_4]) fun rs _u=>(al (D.tup rs) 0).bind fun z_43=>(al (D.tup rs) 1).bind fun z_44=>callK (cf [z,z_42,y,y_4]) fun rs _u=>(al (D.tup rs) 0).bind fun
 z_45=>(al (D.tup rs) 1).bind fun z_46=>callK (bn [z,z_42,y,y_4]) fun rs _u=>(al (D.tup rs) 0).bind fun z_47=>(al (D.tup rs) 1).bind fun z_48=>callK (aZ
 [z,z_42,y,y_4]) fun rs _u=>(al (D.tup rs) 0).bind fun z_49=>(al (D.tup rs) 1).bind fun z_50=>(bin Ju true [] z_44 z_46).bind fun z_51=>(aj (D.tup []) z_51 false (some z_43)).bind fun z_52 =>
 (aj (D.tup []) z_51 false (some z_45)).bind fun z_53=>cd z_51 false (callK (bd [z_52,z_53]) fun rs _u=>some (Out.nrm [sl rs 0])) [D.tup []] fun outs=>(aj (D.tup []) z_51 false (un UnOp.not (sl
 outs 0))).bind fun z_54=>(aJ z_51 (D.v (IE true)) z_54).bind fun z_55=>(aj (D.tup []) z_55 false (some z_48)).bind fun z_56=>(aj (D.tup []) z_55 false (some z_50)).bind fun z_57=>(aj (D.tup [])
 z_55 false (bin Ju true [] z_56 z_57)).bind fun z_58=>(aJ z_55 (D.v (IE true)) z_58).bind fun z_59=>(aj (D.tup []) z_59 false (some z_47)).bind fun z_60=>(aj (D.tup []) z_59 false (some
 z_49)).bind fun z_61=>cd z_59 false (callK (bd [z_60,z_61]) fun rs _u=>some (Out.nrm [sl rs 0])) [D.tup []] fun outs=>(aj (D.tup []) z_59 false (un UnOp.not (sl outs 0))).bind fun z_62=>(aJ
 z_59 (D.v (IE true)) z_62).bind fun z_63=>ifD z_63 (some (Out.ret [D.v (IE false)] [])) (uT (fun j=>ifD z_44 (callK (bf [z,z_42,y,y_4,z_43]) fun rs _u=>(al (D.tup rs)
 0).bind fun y_5=>(al (bS (D.tup rs) 0) 1).bind fun z_64=>(un UnOp.not z_64).bind fun z_65=>(aj (D.tup []) z_65 false (some y_5)).bind fun z_66=>(aj (D.tup []) z_65 false (lenD false z_66)).bind fun z_67
 => (aj (D.tup []) z_65 false (some y_4)).bind fun z_68=>(aj (D.tup []) z_65 false (lenD false z_68)).bind fun z_69=>(aj (D.tup []) z_65 false (bin Ju false [] z_67 z_69)).bind fun z_70=>(aJ z_65 (D.v
 (IE true)) z_70).bind fun z_71=>ifD z_71 (some (Out.ret [D.v (IE false)] [])) (j [z,z_42,y,y_4,z_43,z_44,z_47,z_48])) (j [z,z_42,y,y_4,z_43,z_44,z_47,z_48])) fun s=>(aj (D.tup []) (sl s
 5) true (some (sl s 7))).bind fun z=>(aJ (sl s 5) z (D.v (IE false))).bind fun z=>ifD z (callK (bQ [sl s 0,sl s 1,sl s 2,sl s 3,sl s 4,sl s 6]) fun rs _u=>(al (D.tup rs) 0).bind
 fun y=>(al (bS (D.tup rs) 0) 1).bind fun z=>(aj (D.tup []) z true (some y)).bind fun z_64=>(aj (D.tup []) z true (lenD false z_64)).bind fun z_65=>(aj (D.tup []) z true (bin BinOp.eql false [] z_65
 (D.v (IJ Ix 0)))).bind fun z_66=>(aJ z z_66 (D.v (IE false))).bind fun z=>some (Out.ret [z] [])) (some (Out.ret [D.v (IE true)] [])))) [cR more]=some (.ret [B true] []):=by
  obtain⟨w,h,pl,ps,e0,hw,hh,hpl,hn⟩:=Eg more ⟨hb2,hl2⟩;obtain⟨t0,t1,t2,t3⟩:=vt w h pl ps;have s0:=iP [] (by simp);have T:=fun(a:List Int) (b:Bool)=>cu a b
  have hps:=hn.1;simp -implicitDefEqProofs only [bA,e0,aN,t0,t1,t2,t3,Iy];cases hch:cG w h pl ps with
  | none =>
    obtain⟨⟨l1,l2⟩,r1,r2⟩:=Ds (by omega) hn.ok hch;simp -implicitDefEqProofs only [l1,l2,r1,r2,cH,aN,(T [] false).1,(T [] false).2.1,(T [] false).2.2,Iy,kS,beq_self_eq_true,ID,IG,lL,kL,Iz,if_false,if_true,s0,bA,kz,fC,ka,eO,dv,IL,IK];refine ud (fun s=>s=[I w,I h,pcs pl,pls ps,ints [],B false,ints [],B false]) ?_ (fun j hj=>hj _ rfl)
    rintro s rfl;simp -implicitDefEqProofs
  | some f =>
    obtain⟨wd,ht,rfl,rfl,C⟩:=AK hch hn.ok;obtain⟨l1,z,l2,hz⟩:=C.rows;obtain⟨r1,z',r2,hz'⟩:=C.cols;rw [BO] at l1 r1;have hfl:∀q,gO wd ht f ps.length=some q→(dp q 0 ((ht:Int) - 1)=true∧(bv wd ht f q).length=ps.length∧q.length≤8):=fun q hq=>re C.h8 hq
    have hfl':∀q,gO ht wd (bw f) ps.length=some q→(dp q 0 ((wd:Int) - 1)=true∧(bv ht wd (bw f) q).length=ps.length∧q.length≤8):=fun q hq=>re C.w8 hq
    generalize gO wd ht f ps.length=fr at *;generalize gO ht wd (bw f) ps.length=fc at *;have hq8:(fr.getD []).length≤8:=by
      cases fr with
      | none=>simp
      | some q=>exact(hfl q rfl).2.2
    have hq8':(fc.getD []).length≤8:=by
      cases fc with
      | none=>simp
      | some q=>exact(hfl' q rfl).2.2
    obtain⟨u1,u2⟩:=nU hz fr.isSome;obtain⟨u3,u4⟩:=nU hz' fc.isSome;have g1:=RowD.ints (l:=fr.getD []) (by omega);have g2:=RowD.ints (l:=fc.getD []) (by omega);have sz:=jD g1 (hz.row (by omega));have sz':=jD g2 (hz'.row (by omega));have rr:=(C.right g1).1;have ll:=(C.loose g1 g2).1;rw [BO] at rr ll;simp -implicitDefEqProofs only [l1,l2,r1,r2,u1,u2,u3,u4,(T (fr.getD []) fr.isSome).1,(T (fr.getD []) fr.isSome).2.1,(T (fc.getD []) fc.isSome).1,(T (fc.getD []) fc.isSome).2.1,sz,sz',aN,(T [] false).1,(T [] false).2.1,(T [] false).2.2,Iy,kS,beq_self_eq_true,ID,IG,lL,kL,Iz,if_false,if_true,s0,bA,kz,fC,ka,eO,dv,IL,IK];refine ud (fun s=>s=[I (wd:Int),I (ht:Int),pcs pl,pls ps,ints (fr.getD []),B fr.isSome,ints (fc.getD []),B fc.isSome]) ?_ (fun j hj=>?_)
    · rintro s rfl
      cases fr with
      | none=>simp -implicitDefEqProofs
      | some q =>
        cases fc with
        | none=>simp -implicitDefEqProofs
        | some q' =>
          obtain⟨a1,a2,a3⟩:=hfl q rfl;obtain⟨b1,b2,b3⟩:=hfl' q' rfl;have hl:sc wd ht f ps q q'=some []:=by
            unfold sc;rw [if_pos ⟨a1,b1⟩,CS (fun n hn=>C.all_pressed a2 hn) (fun n hn=>C.all_pressed' b2 hn)]
          simp only [IM] at ll;rw [hl] at ll;simp -implicitDefEqProofs [ll,(T [] true).1,(T [] true).2.1,(T [] true).2.2,-aA,-cj]
    · have hj':=hj _ rfl
      cases fr with
      | none=>simpa -implicitDefEqProofs using hj'
      | some q =>
        obtain⟨a1,a2,a3⟩:=hfl q rfl;have hl:mJ wd ht f q=some (bv wd ht f q):=by
          unfold mJ;rw [if_pos a1]
        simp only [IM] at rr;rw [hl] at rr;simp only [IM,Jg] at rr;simp only [IM,Jg] at hj';have a2':((bv wd ht f q).length:Int)=(ps.length:Int):=by omega
        simp -implicitDefEqProofs only [IM,Jg,dv,if_true,rr,aN,(T (bv wd ht f q) true).1,(T (bv wd ht f q) true).2.2,Iy,kz,ID,lL,Iz,if_false,ca,IA,qI,a2',decide_true,fC];exact hj'
set_option maxHeartbeats 4000000 in
theorem vS (code more:List Int) (hb1:∀n∈code,0≤n∧n≤255) (hb2:∀n∈more,0≤n∧n≤255):eD [cR code,cR more]=some (.ret [B true] []):=by
  rw [qe];obtain⟨p,hp,hp'⟩:=Bl code more;cases p
  case true=>rw [hp];rfl
  obtain⟨hl1,hl2⟩:=hp' rfl;obtain⟨w,h,pl,ps,d,d',R,R',e0,hw,hh,hpl,hn,hd,hdl,hd',hdl'⟩:=DQ code ⟨hb1,hl1⟩;obtain⟨t0,t1,t2,t3,t4,t5⟩:=Fo w h pl ps hd hd';simp -implicitDefEqProofs only [hp,aN,bA,dv,Iz,if_false,e0,t0,t1,t2,t3,t4,t5,Iy];have s0:=iP [] (by simp);have T:=fun(a:List Int) (b:Bool)=>cu a b
  have tail:∀(K:(List D→Option Out)→Option Out) (k:List D→Option Out),k [cR more]=some (.ret [B true] [])→(∀j:List D→Option Out,j [cR more]=some (.ret [B true] [])→K j=some (.ret [B true] []))→uT K k=some (.ret [B true] []):=by
    intro K k hk hK;exact ud (fun s=>s=[cR more]) (by rintro s rfl;exact hk) (fun j hj=>hK j (hj _ rfl))
  cases hch:cG w h pl ps with
  | none =>
    obtain⟨l1,l2⟩:=Eb (by omega) hn.ok hch d d';obtain⟨r1,r2⟩:=EY (by omega) hn.ok hch d;obtain⟨b1,b2⟩:=Ee (by omega) hn.ok hch d';simp -implicitDefEqProofs only [l1,l2,r1,r2,b1,b2,cH,aN,(T [] false).1,(T [] false).2.1,(T [] false).2.2,Iy,kS,beq_self_eq_true,ID,IG,lL,kL,Iz,if_false,if_true,s0,bA,kz,fC,ka,eO,dv,IL,IK];exact tail _ _ (lc more hb2 hl2) (fun j hj=>hj)
  | some f =>
    obtain⟨wd,ht,rfl,rfl,C⟩:=AK hch hn.ok;have rd:=hd.row (by omega);have rd':=hd'.row (by omega);obtain⟨l1,l2⟩:=C.loose rd rd';obtain⟨r1,r2⟩:=C.right rd;obtain⟨b1,b2⟩:=C.below rd';unfold sc at l1 l2;unfold mJ at r1 r2 b1 b2;have sA:=iP (bv wd ht f R) (by have:=jr (jG wd ht f R);unfold bv;omega);have sE:=iP (bv ht wd (bw f) R') (by have:=jr (jG ht wd (bw f) R');unfold bv;omega);by_cases hr:dp R 0 ((ht:Int) - 1)=true
    · by_cases hr':dp R' 0 ((wd:Int) - 1)=true
      · rw [if_pos ⟨hr,hr'⟩] at l1 l2
        rw [if_pos hr] at r1 r2;rw [if_pos hr'] at b1 b2;have sL:=iP (gi ps (bv wd ht f R) (bv ht wd (bw f) R')) (by have h1:=su (bv wd ht f R) (bv ht wd (bw f) R') ps [];have h2:=C.pl.1;unfold gi;simp at h1;omega);have hlean:=fun n k hn' hk hk2=>C.lean (R:=R) (n:=n) (k:=k) hn' hk hk2
        have hlean':=fun n k hn' hk hk2=>C.lean' (R:=R') (n:=n) (k:=k) hn' hk hk2
        have hmem:=fun n=>wQ (ps:=ps) (A:=bv wd ht f R) (E:=bv ht wd (bw f) R') (n:=n)
        have gA:=RowD.ints (l:=bv wd ht f R) (by have:=jr (jG wd ht f R);unfold bv;omega);have gE:=RowD.ints (l:=bv ht wd (bw f) R') (by have:=jr (jG ht wd (bw f) R');unfold bv;omega);have gL:=RowD.ints (l:=gi ps (bv wd ht f R) (bv ht wd (bw f) R')) (by have h1:=su (bv wd ht f R) (bv ht wd (bw f) R') ps [];have h2:=C.pl.1;unfold gi;simp at h1;omega);generalize bv wd ht f R=A at *;generalize bv ht wd (bw f) R'=E at *;generalize gi ps A E=Lo at *;simp -implicitDefEqProofs only [l1,l2,r1,r2,b1,b2,cH,(T Lo true).1,(T Lo true).2.1,(T Lo true).2.2,(T A true).1,(T A true).2.1,(T A true).2.2,(T E true).1,(T E true).2.1,(T E true).2.2,sA,sE,sL,aN,(T [] false).1,(T [] false).2.1,(T [] false).2.2,Iy,kS,beq_self_eq_true,ID,IG,lL,kL,Iz,if_false,if_true,s0,bA,kz,fC,ka,eO,dv,IL,IK];refine tail _ _ (lc more hb2 hl2) (fun j hj=>?_)
        · have hps:=hn.1
          simp -implicitDefEqProofs only [ca,IA,Iy];refine aE _ (dJ ps.length (fun i=>[cR more,I (wd:Int),I (ht:Int),pcs pl,pls ps,ints Lo,ints A,ints E,pls ps,I (ps.length:Int),I (i:Int)]) (.ext 0 [cR more]) (fun i hi=>?_) ?_ rfl rfl) ?_
          · have hwi:Ix.wrap ((i:Int)+1)=(i:Int)+1:=ai (by omega) (by omega)
            have hi':(i:Int)<(ps.length:Int):=by omega
            have hri:=Ae hi;have hnum:ps[i].1∈ps.map (·.1):=Jb.2 ⟨ps[i],IC hi,rfl⟩;generalize ps[i]=x at *;obtain⟨n,X,Y,t⟩:=x;replace hnum:n∈ps.map (·.1):=hnum;obtain⟨n0,n8,_⟩:=C.nums hnum;obtain⟨a1,a2⟩:=C.at_right hnum;obtain⟨c1,c2⟩:=C.at_below hnum;have hbl:=jr (xE wd ht f n);have hbl':=jr (xE ht wd (bw f) n);have i1:=kv gL n;have i2:=kv gA n;have i3:=kv gE n;have j2:=fun k=>kv gA k
            have j3:=fun k=>kv gE k
            replace hlean:=fun k=>hlean n k n0
            replace hlean':=fun k=>hlean' n k n0
            have hlo:decide (n∈Lo)=(!decide (n∈A) || !decide (n∈E)):=by
              rw [Jr,decide_eq_true_eq,hmem];by_cases x1:n∈A<;>by_cases x2:n∈E<;>simp [x1,x2,hnum]
            rw [show setL (xE wd ht f n)=sy wd ht f n from rfl] at hbl;rw [show setL (xE ht wd (bw f) n)=sy ht wd (bw f) n from rfl] at hbl';have s1:=iP (sy wd ht f n) (by omega);have s2:=iP (sy ht wd (bw f) n) (by omega);generalize sy wd ht f n=P at *;generalize sy ht wd (bw f) n=Q at *;rw [hlo] at i1;have hst:stD 4 (D.agg [D.v (IJ Ix 0),D.v (IJ Ix 0),D.v (IJ Ix 0),D.v (IE false)]) (D.ref 0 0) (plD (n,X,Y,t))=some (plD (n,X,Y,t)):=by simp
            have core:∀z:Option Out,(z=some (.nrm [cR more,I (wd:Int),I (ht:Int),pcs pl,pls ps,ints Lo,ints A,ints E,pls ps,I (ps.length:Int),I ((i:Int)+1)]))→z=some (.nrm [cR more,I (wd:Int),I (ht:Int),pcs pl,pls ps,ints Lo,ints A,ints E,pls ps,I (ps.length:Int),I ((i+1:Nat):Int)]):=fun z hz=>hz
            refine core _ ?_
            by_cases x1:n∈A<;>by_cases x2:n∈E<;>simp -implicitDefEqProofs [hi',hri,i1,i2,i3,x1,x2,a1,a2,c1,c2,(T P true).1,(T P true).2.1,(T P true).2.2,(T Q true).1,(T Q true).2.1,(T Q true).2.2,s1,s2,-aA,-cj] <;>
              (refine aE _ (dJ P.length (fun j=>[cR more,I (wd:Int),I (ht:Int),pcs pl,pls ps,ints Lo,ints A,ints E,plD (n,X,Y,t),ints Q,pls ps,I (ps.length:Int),I (i:Int),ints P,I (P.length:Int),I (j:Int)]) (.ext 2 [cR more,I (wd:Int),I (ht:Int),pcs pl,pls ps,ints Lo,ints A,ints E,plD (n,X,Y,t),ints Q,pls ps,I (ps.length:Int),I (i:Int)]) (fun j hj=>?_) ?_ rfl rfl) ?_
               · have hwj:Ix.wrap ((j:Int)+1)=(j:Int)+1:=ai (by omega) (by omega)
                 have hj':(j:Int)<(P.length:Int):=by omega
                 have hrj:aF 1 (ints P) (I (j:Int))=some [I P[j]]:=by simp [hj]
                 have hk:=hlean P[j] (IC hj);have hq:=j2 P[j];generalize P[j]=k at *;by_cases y1:k∈A
                 · have y2:=hk y1
                   simp -implicitDefEqProofs [hj',hrj,hq,y1,i2,y2,hwj]
                 · simp -implicitDefEqProofs [hj',hrj,hq,y1,hwj]
               · simp -implicitDefEqProofs
               · simp -implicitDefEqProofs
                 refine aE _ (dJ Q.length (fun j=>[cR more,I (wd:Int),I (ht:Int),pcs pl,pls ps,ints Lo,ints A,ints E,plD (n,X,Y,t),pls ps,I (ps.length:Int),I (i:Int),ints Q,I (Q.length:Int),I (j:Int)]) (.ext 4 [cR more,I (wd:Int),I (ht:Int),pcs pl,pls ps,ints Lo,ints A,ints E,pls ps,I (ps.length:Int),I (i:Int)]) (fun j hj=>?_) ?_ rfl rfl) ?_
                 · have hwj:Ix.wrap ((j:Int)+1)=(j:Int)+1:=ai (by omega) (by omega)
                   have hj':(j:Int)<(Q.length:Int):=by omega
                   have hrj:aF 1 (ints Q) (I (j:Int))=some [I Q[j]]:=by simp [hj]
                   have hk:=hlean' Q[j] (IC hj);have hq:=j3 Q[j];generalize Q[j]=k at *;by_cases y1:k∈E
                   · have y2:=hk y1
                     simp -implicitDefEqProofs [hj',hrj,hq,y1,i3,y2,hwj]
                   · simp -implicitDefEqProofs [hj',hrj,hq,y1,hwj]
                 · simp -implicitDefEqProofs
                 · simp -implicitDefEqProofs [hwi])
          · simp -implicitDefEqProofs
          · simpa -implicitDefEqProofs using hj
      · rw [if_neg (fun h=>hr' h.2)] at l1 l2
        rw [if_pos hr] at r1 r2;rw [if_neg hr'] at b1 b2;generalize bv wd ht f R=A at *;simp -implicitDefEqProofs only [l1,l2,r1,r2,b1,b2,cH,(T A true).1,(T A true).2.1,(T A true).2.2,sA,aN,(T [] false).1,(T [] false).2.1,(T [] false).2.2,Iy,kS,beq_self_eq_true,ID,IG,lL,kL,Iz,if_false,if_true,s0,bA,kz,fC,ka,eO,dv,IL,IK];exact tail _ _ (lc more hb2 hl2) (fun j hj=>hj)
    · by_cases hr':dp R' 0 ((wd:Int) - 1)=true
      · rw [if_neg (fun h=>hr h.1)] at l1 l2
        rw [if_neg hr] at r1 r2;rw [if_pos hr'] at b1 b2;generalize bv ht wd (bw f) R'=E at *;simp -implicitDefEqProofs only [l1,l2,r1,r2,b1,b2,cH,(T E true).1,(T E true).2.1,(T E true).2.2,sE,aN,(T [] false).1,(T [] false).2.1,(T [] false).2.2,Iy,kS,beq_self_eq_true,ID,IG,lL,kL,Iz,if_false,if_true,s0,bA,kz,fC,ka,eO,dv,IL,IK];exact tail _ _ (lc more hb2 hl2) (fun j hj=>hj)
      · rw [if_neg (fun h=>hr h.1)] at l1 l2
        rw [if_neg hr] at r1 r2;rw [if_neg hr'] at b1 b2;simp -implicitDefEqProofs only [l1,l2,r1,r2,b1,b2,cH,aN,(T [] false).1,(T [] false).2.1,(T [] false).2.2,Iy,kS,beq_self_eq_true,ID,IG,lL,kL,Iz,if_false,if_true,s0,bA,kz,fC,ka,eO,dv,IL,IK];exact tail _ _ (lc more hb2 hl2) (fun j hj=>hj)
end Go.Proofs.Ytccaheogjpfhjaa

end
