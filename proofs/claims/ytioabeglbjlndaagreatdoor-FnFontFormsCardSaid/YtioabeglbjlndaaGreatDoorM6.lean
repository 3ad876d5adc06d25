/-
  A part of the proof: contracts and plain forms of functions beneath the statement, made small by a program (names shortened, what is not needed left out).
-/
import Derived.Test.YtioabeglbjlndaaGreatDoorRows
import Derived.Test.YtioabeglbjlndaaGreatDoorTie
import Derived.Test.YtioabeglbjlndaaGreatDoorCards
import Derived.Test.YtioabeglbjlndaaGreatDoorM5
open Int renaming reduceLT → EU, reduceLE → EV, reduceEq → EW, eq_ofNat_of_zero_le → Fj
open Bool renaming true_and → EX, and_eq_true → Fb, false_and → Fc, eq_false_iff → Fv, false_or → Fx, false_eq_true → FA, true_or → FR
open Go.IntKind renaming i64 → EY, u8 → FH
open List renaming getElem_mem → EZ, length_take → Fe, length_singleton → Fg, mem_singleton → Fi, mem_append → Fk, foldl_cons → Fo, all_eq_true → Fp, nil_append → Fq, length_drop → Fs, length_cons → Ft, length_append → Fu, length_nil → Fy, contains_iff_mem → FC, length_map → FD, length_set → FE, takeWhile_cons → FF, mem_cons → FG, getElem?_eq_getElem → FI, mem_of_getElem? → FM, length_dropLast → FN, map_cons → FO, map_congr_left → FP, map_set → FT, flatten_cons → FU, append_assoc → FV, not_mem_nil → FW, map_append → FX
open ByteArray renaming size_append → Fa, size_extract → FK
open Option renaming bind_some → Ff, elim → Fh, isSome_some → Fm, isSome_none → Fz
open Go.Value renaming string → Fl, bool → FY
open UInt8 renaming ofNat → Fr
open Nat renaming zero_add → Fw, le_refl → FJ
open Classical renaming choose_spec → FL
open Go.Lib renaming contains → FQ
set_option maxRecDepth 100000
set_option linter.unusedSimpArgs false
set_option linter.unusedVariables false
noncomputable section
namespace Go.Proofs.YtioabeglbjlndaaGreatDoor
open Go Go.V
set_option maxRecDepth 100000
theorem dY:D.arr 2 []=srs []:=rfl
def cd (c:ByteArray) (x:Srt):Bool:=decide (x.1=c)
def fnd (f:List Srt) (c:ByteArray):Option Nat:=dM (cd c) 0 f
theorem vw {body:List D→Option Out} {K:Out→Option Out} (f:List Srt) (c:ByteArray) (h:FIn f)
  (hs:∀(i:Nat) (hi:i<f.length),body [T c,srs f,I f.length,I i]=some (if f[i].1=c then .ret [I i] [] else .nrm [T c,srs f,I f.length,I ((i+1:Nat):Int)]))
  (he:body [T c,srs f,I f.length,I f.length]=some (.ext 0 [])) (hK1:∀i:Nat,K (.ret [I i] [])=some (.ret [I i] [])) (hK2:K (.ext 0 [])=some (.ret [I (-1)] [])) :
  (aS body [T c,srs f,I f.length,I 0]).bind K=some (.ret [I ((fnd f c).elim (-1) fun j=>(j:Int))] []):=by
 refine aX _ (qg f (fun i=>[T c,srs f,I f.length,I i]) (cd c) (fun i=>.ret [I i] []) (.ext 0 []) (fun i hi=>?_) he (fun _=>rfl) rfl rfl) ?_
 ·rw [hs i hi]
  unfold cd;by_cases hc:f[i].1=c
  ·rw [if_pos hc,if_pos (decide_eq_true hc)]
  ·rw [if_neg hc,if_neg (by simp [hc])]
 ·unfold fnd
  cases dM (cd c) 0 f with
  | none=>exact hK2
  | some j=>exact hK1 j
theorem jw (f:List Srt) (c:ByteArray) (h:FIn f):dU [srs f,T c]=some (.ret [I ((fnd f c).elim (-1) fun j=>(j:Int))] []):=by
 rw [tF];have hl:=h.ln;simp -implicitDefEqProofs only [an,EU,EV,EW];refine vw f c h (fun i hi=>?_) ?_ (fun i=>by simp -implicitDefEqProofs only [an,EU,EV,EW,jO]) (by simp -implicitDefEqProofs only [an,EU,EV,EW])
 ·have hi':(i:Int)<(f.length:Int):=by omega
  have hw:EY.wrap ((i:Int)+1)=((i+1:Nat):Int):=by rw [aw (by omega) (by omega)];omega
  have hg:=fh hi;have e0:D.v (Fl {data:={toList:=[]}})=T ⟨#[]⟩:=rfl;by_cases hc:f[i].1=c<;>simp -implicitDefEqProofs only [an,EU,EV,EW,hi',hg,kM,gK,e0,iC,oZ,hc,hw]
 ·have hlt:¬((f.length:Int)<(f.length:Int)):=by omega
  simp -implicitDefEqProofs only [an,EU,EV,EW,hlt]
theorem gf (f:List Srt) (c:ByteArray) (h:FIn f):de [srs f,T c]=some (.ret [I ((fnd f c).elim (-1) fun j=>(j:Int))] []):=by
 rw [tn];have hl:=h.ln;simp -implicitDefEqProofs only [an,EU,EV,EW];refine vw f c h (fun i hi=>?_) ?_ (fun i=>by simp -implicitDefEqProofs only [an,EU,EV,EW,jO]) (by simp -implicitDefEqProofs only [an,EU,EV,EW])
 ·have hi':(i:Int)<(f.length:Int):=by omega
  have hw:EY.wrap ((i:Int)+1)=((i+1:Nat):Int):=by rw [aw (by omega) (by omega)];omega
  have hg:=fh hi;have e0:D.v (Fl {data:={toList:=[]}})=T ⟨#[]⟩:=rfl;by_cases hc:f[i].1=c<;>simp -implicitDefEqProofs only [an,EU,EV,EW,hi',hg,kM,gK,e0,iC,oZ,hc,hw]
 ·have hlt:¬((f.length:Int)<(f.length:Int)):=by omega
  simp -implicitDefEqProofs only [an,EU,EV,EW,hlt]
theorem lM {β:Type} (p:β→Bool):∀(l:List β) (i j:Nat),dM p i l=some j→∃k,j=i+k∧∃h:k<l.length,p l[k]=true∧∀m (hm:m<k),p (l[m]'(by omega))=false
 | [],_,_,h=>by cases h
 | x::l,i,j,h=>by
  simp only [dM] at h;by_cases hp:p x=true
  ·rw [if_pos hp] at h
   cases h;exact⟨0,rfl,by simp,hp,fun m hm=>by omega⟩
  ·rw [if_neg hp] at h
   obtain⟨k,rfl,hk,h2,h3⟩:=lM p l (i+1) j h;refine⟨k+1,by omega,by simp;omega,h2,fun m hm=>?_⟩
   cases m with
   | zero=>simpa using hp
   | succ m=>exact h3 m (by omega)
theorem rO {β:Type} {p:β→Bool}:∀{l:List β} {i:Nat},dM p i l=none→∀x∈l,p x=false
 | [],_,_,_,hx=>by cases hx
 | y::l,i,h,x,hx=>by
  simp only [dM] at h;by_cases hp:p y=true
  ·rw [if_pos hp] at h
   cases h
  ·rw [if_neg hp] at h
   rcases FG.1 hx with rfl | hx
   ·simpa using hp
   ·exact rO h x hx
theorem jH {f:List Srt} {c:ByteArray} {j:Nat} (h:fnd f c=some j):∃hj:j<f.length,f[j].1=c:=by
 obtain⟨k,rfl,hk,h2,-⟩:=lM _ _ _ _ h;rw [Fw];exact⟨hk,of_decide_eq_true h2⟩
def ve (f:List Srt) (c:ByteArray):Bool:=cr f&&(fnd f c).isSome
def AX (f:List Srt) (c:ByteArray):Int:=if cr f=true then(fnd f c).elim 0 fun j=>(f.getD j default).2 else 0
theorem EP:¬(0:Int) ≤ -1:=by decide
theorem jG (f:List Srt) (c:ByteArray) (h:FIn f):cB [srs f,T c]=some (.ret [I (AX f c),B (ve f c)] []):=by
 rw [pZ];have h1:=jw f c h;have h2:=cz f h;unfold AX ve;cases hb:cr f<;>rw [hb] at h2
 ·simp -implicitDefEqProofs only [an,EU,EV,EW,h1,h2,Fc]
 ·cases hf:fnd f c with
  | none =>
   rw [hf] at h1;simp -implicitDefEqProofs only [an,EU,EV,EW,h1,h2,Fh,EX,Fz,show((-1:Int)<0) by decide]
  | some j =>
   obtain⟨hj,-⟩:=jH hf;rw [hf] at h1;have hn:¬(j:Int)<0:=by omega
   have hg:=fh hj;have hgd:f.getD j default=f[j]:=by simp [hj]
   simp -implicitDefEqProofs only [an,EU,EV,EW,h1,h2,Fh,EX,Fm,hn,hg,hgd]
theorem pT (f:List Srt) (c:ByteArray) (h:FIn f):en [srs f,T c]=some (.ret [I (AX f c),B (ve f c)] []):=by
 rw [qm];have h1:=gf f c h;have h2:=dh f h;unfold AX ve;cases hb:cr f<;>rw [hb] at h2
 ·simp -implicitDefEqProofs only [an,EU,EV,EW,h1,h2,Fc]
 ·cases hf:fnd f c with
  | none =>
   rw [hf] at h1;simp -implicitDefEqProofs only [an,EU,EV,EW,h1,h2,Fh,EX,Fz,show((-1:Int)<0) by decide]
  | some j =>
   obtain⟨hj,-⟩:=jH hf;rw [hf] at h1;have hn:¬(j:Int)<0:=by omega
   have hg:=fh hj;have hgd:f.getD j default=f[j]:=by simp [hj]
   simp -implicitDefEqProofs only [an,EU,EV,EW,h1,h2,Fh,EX,Fm,hn,hg,hgd]
def woB (f:List Srt) (c:ByteArray):Bool:=(cr f&&(fnd f c).isSome) && !decide ((f.length:Int)=1)
def woR (f:List Srt) (c:ByteArray):List Srt:=if woB f c=true then(fnd f c).elim [] fun j=>f.take j++f.drop (j+1) else []
theorem iE (f:List Srt) (c:ByteArray) (h:FIn f):cE [srs f,T c]=some (.ret [srs (woR f c),B (woB f c)] []):=by
 rw [nA];have h1:=jw f c h;have h2:=cz f h;have hl:=h.ln;unfold woR woB;cases hb:cr f<;>rw [hb] at h2
 ·simp -implicitDefEqProofs only [an,EU,EV,EW,h1,h2,Fc,dY]
 ·cases hf:fnd f c with
  | none =>
   rw [hf] at h1;simp -implicitDefEqProofs only [an,EU,EV,EW,h1,h2,Fh,EX,Fz,show((-1:Int)<0) by decide,dY,Fc]
  | some j =>
   obtain⟨hj,-⟩:=jH hf;rw [hf] at h1;have hn:¬(j:Int)<0:=by omega
   have hwj:EY.wrap ((j:Int)+1)=((j+1:Nat):Int):=by rw [aw (by omega) (by omega)];omega
   have t1:=oK (l:=f) (i:=j) (by omega);have t2:=px (l:=f) (i:=j+1) (by omega);have a1:=ee (l:=[]) (m:=f.take j) (by simp only [Fe,Fy];omega);have a2:=ee (l:=[]++f.take j) (m:=f.drop (j+1)) (by simp only [Fq,Fe,Fs];omega);rw [Fq] at a1 a2;by_cases h1':(f.length:Int)=1
   ·simp -implicitDefEqProofs only [an,EU,EV,EW,h1,h2,Fh,EX,Fm,hn,h1',dY]
   ·simp -implicitDefEqProofs only [an,EU,EV,EW,h1,h2,Fh,EX,Fm,hn,h1',dY,t1,hD,a1,hwj,t2,a2]
theorem nK (f:List Srt) (c:ByteArray) (h:FIn f):dC [srs f,T c]=some (.ret [srs (woR f c),B (woB f c)] []):=by
 rw [nL];have h1:=gf f c h;have h2:=dh f h;have hl:=h.ln;unfold woR woB;cases hb:cr f<;>rw [hb] at h2
 ·simp -implicitDefEqProofs only [an,EU,EV,EW,h1,h2,Fc,dY]
 ·cases hf:fnd f c with
  | none =>
   rw [hf] at h1;simp -implicitDefEqProofs only [an,EU,EV,EW,h1,h2,Fh,EX,Fz,show((-1:Int)<0) by decide,dY,Fc]
  | some j =>
   obtain⟨hj,-⟩:=jH hf;rw [hf] at h1;have hn:¬(j:Int)<0:=by omega
   have hwj:EY.wrap ((j:Int)+1)=((j+1:Nat):Int):=by rw [aw (by omega) (by omega)];omega
   have t1:=oK (l:=f) (i:=j) (by omega);have t2:=px (l:=f) (i:=j+1) (by omega);have a1:=ee (l:=[]) (m:=f.take j) (by simp only [Fe,Fy];omega);have a2:=ee (l:=[]++f.take j) (m:=f.drop (j+1)) (by simp only [Fq,Fe,Fs];omega);rw [Fq] at a1 a2;by_cases h1':(f.length:Int)=1
   ·simp -implicitDefEqProofs only [an,EU,EV,EW,h1,h2,Fh,EX,Fm,hn,h1',dY]
   ·simp -implicitDefEqProofs only [an,EU,EV,EW,h1,h2,Fh,EX,Fm,hn,h1',dY,t1,hD,a1,hwj,t2,a2]
def bef (s x:Srt):Bool:=!ltS x.1 s.1
def pos (f:List Srt) (s:Srt):Nat:=(dM (bef s) 0 f).elim f.length id
def ins (f:List Srt) (s:Srt):List Srt:=(f.take (pos f s)++[s])++f.drop (pos f s)
theorem jK (f:List Srt) (s:Srt):pos f s≤f.length∧(∀m (hm:m<pos f s) (hl:m<f.length),ltS f[m].1 s.1=true)∧(∀h:pos f s<f.length,ltS f[pos f s].1 s.1=false):=by
 unfold pos;cases hf:dM (bef s) 0 f with
 | none =>
  refine⟨FJ _,fun m _ hl=>?_,fun h=>absurd h (Nat.lt_irrefl _)⟩
  have:=rO hf _ (EZ hl);unfold bef at this;simpa using this
 | some j =>
  obtain⟨k,rfl,hk,h2,h3⟩:=lM _ _ _ _ hf;simp only [Fh,id,Fw];refine⟨by omega,fun m hm hl=>?_,fun _=>?_⟩
  ·have:=h3 m hm
   unfold bef at this;simpa using this
  ·unfold bef at h2
   simpa using h2
theorem wx {body:List D→Option Out} (f:List Srt) (s:Srt)
  (hs:∀(i:Nat) (hi:i<f.length),body [srs f,sr s,I i]=some (if ltS f[i].1 s.1=true then .nrm [srs f,sr s,I ((i+1:Nat):Int)] else .ext 0 [srs f,sr s,I i]))
  (he:body [srs f,sr s,I f.length]=some (.ext 0 [srs f,sr s,I f.length])):aS body [srs f,sr s,I 0]=some (.ext 0 [srs f,sr s,I (pos f s)]):=by
 have:=qg (body:=body) f (fun i=>[srs f,sr s,I i]) (bef s) (fun i=>.ext 0 [srs f,sr s,I i]) (.ext 0 [srs f,sr s,I f.length]) (fun i hi=>by
  rw [hs i hi];unfold bef;cases ltS f[i].1 s.1<;>rfl) he (fun _=>rfl) rfl (s0:=[srs f,sr s,I 0]) rfl
 rw [this];unfold pos;cases dM (bef s) 0 f<;>rfl
def wsB (f:List Srt) (s:Srt):Bool:=(cr f&&fL s)&&cr (ins f s)
def wsR (f:List Srt) (s:Srt):List Srt:=if wsB f s=true then ins f s else []
theorem vb (f:List Srt) (s:Srt):(ins f s).length=f.length+1:=by
 have:=(jK f s).1;unfold ins;simp only [Fu,Fe,Fs,Fg];omega
theorem Dj {f:List Srt} {s x:Srt}:x∈ins f s↔x=s∨x∈f:=by
 unfold ins;rw [Fk,Fk,Fi];constructor
 ·rintro((h | h) | h)
  ·exact .inr (List.mem_of_mem_take h)
  ·exact .inl h
  ·exact .inr (List.mem_of_mem_drop h)
 ·rintro(h | h)
  ·exact .inl (.inr h)
  ·rw [←List.take_append_drop (pos f s) f,Fk] at h
   rcases h with h | h
   ·exact .inl (.inl h)
   ·exact .inr h
theorem wW {f:List Srt} {s:Srt} (h:FIn f) (hf:cr f=true) (hs:s.1.size≤1000000):FIn (ins f s):=by
 have hl:f.length≤32:=by
  unfold cr at hf;rw [Fb,decide_eq_true_eq] at hf;omega
 refine⟨by rw [vb];omega,fun x hx=>?_⟩
 rcases Dj.1 hx with rfl | hx
 ·exact hs
 ·exact h.sz x hx
theorem qL (f:List Srt) (s:Srt) (h:FIn f) (hz:s.1.size≤1000000):eI [srs f,sr s]=some (.ret [srs (wsR f s),B (wsB f s)] []):=by
 rw [re];have h1:=cz f h;have h2:=ga s (by omega);have hl:=h.ln;unfold wsR wsB;cases hb:cr f<;>rw [hb] at h1
 ·simp -implicitDefEqProofs only [an,EU,EV,EW,js,eu,h1,Fc,dY]
 ·cases hc:fL s<;>rw [hc] at h2
  ·simp -implicitDefEqProofs only [an,EU,EV,EW,js,eu,h1,h2,EX,Fc,dY]
  ·simp -implicitDefEqProofs only [an,EU,EV,EW,js,eu,h1,h2,EX]
   refine aX _ (wx f s (fun i hi=>?_) ?_) ?_
   ·have hi':(i:Int)<(f.length:Int):=by omega
    have hw:EY.wrap ((i:Int)+1)=((i+1:Nat):Int):=by rw [aw (by omega) (by omega)];omega
    have hg:=fh hi;cases hlt:ltS f[i].1 s.1<;>simp -implicitDefEqProofs only [an,EU,EV,EW,hi',hg,wI,hlt,hw]
   ·have hlt:¬((f.length:Int)<(f.length:Int)):=by omega
    simp -implicitDefEqProofs only [an,EU,EV,EW,hlt]
   ·have hp:=(jK f s).1
    have hi:=wW h hb hz;have h3:=cz (ins f s) hi;have t1:=oK (l:=f) (i:=pos f s) hp;have t2:=px (l:=f) (i:=pos f s) hp;have a1:=ee (l:=[]) (m:=f.take (pos f s)) (by simp only [Fe,Fy];omega);rw [Fq] at a1;have a2:=ee (l:=f.take (pos f s)) (m:=[s]) (by simp only [Fe,Fg];omega);have a3:=ee (l:=f.take (pos f s)++[s]) (m:=f.drop (pos f s)) (by simp only [Fu,Fe,Fs,Fg];omega);have ho:aA 2 [sr s]=some (srs [s]):=nV s.1 s.2;have e:f.take (pos f s)++[s]++f.drop (pos f s)=ins f s:=rfl;rw [e] at a3;cases hd:cr (ins f s)<;>rw [hd] at h3<;>simp -implicitDefEqProofs only [an,EU,EV,EW,dY,t1,hD,a1,eu,ho,a2,t2,a3,h3]
theorem gp {f:List Srt}:cr f=true↔(∀x∈f,fL x=true)∧f.Pairwise (fun a b=>ltS a.1 b.1=true)∧1≤f.length∧f.length≤32:=by
 have key:∀(l:List Srt) (i:Nat) (q:Nat→Srt→Bool),jU (fun i x=>fL x&&q i x) i l=true↔(∀x∈l,fL x=true)∧∀k (hk:k<l.length),q (i+k) l[k]=true:=by
  intro l;induction l with
  | nil=>intro i q;simp [jU]
  | cons x l ih =>
   intro i q;simp only [jU,Fb];rw [ih (i+1) q];constructor
   ·rintro⟨⟨h1,h2⟩,h3,h4⟩
    refine⟨fun y hy=>?_,fun k hk=>?_⟩
    ·rcases FG.1 hy with rfl | hy
     ·exact h1
     ·exact h3 y hy
    ·cases k with
     | zero=>exact h2
     | succ k =>
      have:=h4 k (by simpa using hk);rw [show i+(k+1)=i+1+k by omega];exact this
   ·rintro⟨h1,h2⟩
    refine⟨⟨h1 x (by simp),h2 0 (by simp)⟩,fun y hy=>h1 y (by simp [hy]),fun k hk=>?_⟩
    have:=h2 (k+1) (by simpa using hk);rw [show i+(k+1)=i+1+k by omega] at this;exact this
 unfold cr;rw [Fb,decide_eq_true_eq];have hk:=key f 0 (fun i x=>decide (i=0)||ltS (f.getD (i - 1) default).1 x.1);show jU (nxt f) 0 f=true∧_↔_
 have e:jU (nxt f) 0 f=jU (fun i x=>fL x&&(decide (i=0)||ltS (f.getD (i - 1) default).1 x.1)) 0 f:=rfl;rw [e,hk];have chain:(∀k (hk:k<f.length),(decide (0+k=0)||ltS (f.getD (0+k - 1) default).1 f[k].1)=true)↔f.Pairwise (fun a b=>ltS a.1 b.1=true):=by
  rw [List.pairwise_iff_getElem];constructor
  ·intro h
   have step:∀i (hi:i+1<f.length),ltS f[i].1 f[i+1].1=true:=by
    intro i hi;have:=h (i+1) hi;rw [Fw,Nat.add_sub_cancel] at this;simpa [show i<f.length by omega] using this
   intro i j hi hj hij;have:∀n (hn:i+1+n<f.length),ltS f[i].1 f[i+1+n].1=true:=by
    intro n;induction n with
    | zero=>exact fun hn=>step i hn
    | succ n ih=>exact fun hn=>zE (ih (by omega)) (step (i+1+n) hn)
   have h2:=this (j - (i+1)) (by omega);have e2:i+1+(j - (i+1))=j:=by omega
   simpa only [e2] using h2
  ·intro h k hk
   by_cases h0:k=0
   ·simp [h0]
   ·have h2:=h (k - 1) k (by omega) hk (by omega)
    have h3:k - 1<f.length:=by omega
    rw [Fw];have hgd:f.getD (k - 1) default=f[k - 1]:=by simp [h3]
    rw [hgd,h2];simp
 rw [chain];constructor
 ·rintro⟨⟨h1,h2⟩,h3⟩
  exact⟨h1,h2,by omega,by omega⟩
 ·rintro⟨h1,h2,h3,h4⟩
  exact⟨⟨h1,h2⟩,by omega,by omega⟩
theorem DW {f:List Srt} {s:Srt} {j:Nat} (hj:fnd f s.1=some j):cr (ins f s)=false:=by
 rw [Fv];intro h;obtain⟨-,hp,-⟩:=gp.1 h;obtain⟨hlt,hc⟩:=jH hj;obtain⟨p1,p2,p3⟩:=jK f s;have hge:pos f s≤j:=by
  rcases Nat.lt_or_ge j (pos f s) with g | g
  ·have:=p2 j g hlt
   rw [hc,nJ] at this;cases this
  ·exact g
 have hm:f[j]∈f.drop (pos f s):=by
  rw [List.mem_drop_iff_getElem];exact⟨j - pos f s,by omega,by simp only [show pos f s+(j - pos f s)=j by omega]⟩
 unfold ins at hp;have:=(List.pairwise_append.1 hp).2.2 s (by simp) _ hm;rw [hc,nJ] at this;cases this
theorem qT (f:List Srt) (s:Srt) (h:FIn f) (hz:s.1.size≤1000000):eL [srs f,sr s]=some (.ret [srs (wsR f s),B (wsB f s)] []):=by
 rw [rh];have h1:=dh f h;have h2:=jA s (by omega);have h4:=gf f s.1 h;have hl:=h.ln;unfold wsR wsB;cases hb:cr f<;>rw [hb] at h1
 ·simp -implicitDefEqProofs only [an,EU,EV,EW,js,eu,h1,Fc,dY]
 ·cases hc:fL s<;>rw [hc] at h2
  ·simp -implicitDefEqProofs only [an,EU,EV,EW,js,eu,h1,h2,EX,Fc,dY]
  ·cases hf:fnd f s.1 with
   | some j =>
    rw [hf] at h4;have hn:(0:Int)≤(j:Int):=by omega
    rw [DW hf];simp -implicitDefEqProofs only [an,EU,EV,EW,js,eu,h1,h2,EX,h4,Fh,hn,dY]
   | none =>
    rw [hf] at h4;simp -implicitDefEqProofs only [an,EU,EV,EW,js,eu,h1,h2,EX,h4,Fh,EP];refine aX _ (wx f s (fun i hi=>?_) ?_) ?_
    ·have hi':(i:Int)<(f.length:Int):=by omega
     have hw:EY.wrap ((i:Int)+1)=((i+1:Nat):Int):=by rw [aw (by omega) (by omega)];omega
     have hg:=fh hi;cases hlt:ltS f[i].1 s.1<;>simp -implicitDefEqProofs only [an,EU,EV,EW,hi',hg,wI,hlt,hw]
    ·have hlt:¬((f.length:Int)<(f.length:Int)):=by omega
     simp -implicitDefEqProofs only [an,EU,EV,EW,hlt]
    ·have hp:=(jK f s).1
     have hi:=wW h hb hz;have h3:=dh (ins f s) hi;have t1:=oK (l:=f) (i:=pos f s) hp;have t2:=px (l:=f) (i:=pos f s) hp;have a1:=ee (l:=[]) (m:=f.take (pos f s)) (by simp only [Fe,Fy];omega);rw [Fq] at a1;have a2:=ee (l:=f.take (pos f s)) (m:=[s]) (by simp only [Fe,Fg];omega);have a3:=ee (l:=f.take (pos f s)++[s]) (m:=f.drop (pos f s)) (by simp only [Fu,Fe,Fs,Fg];omega);have ho:aA 2 [sr s]=some (srs [s]):=nV s.1 s.2;have e:f.take (pos f s)++[s]++f.drop (pos f s)=ins f s:=rfl;rw [e] at a3;cases hd:cr (ins f s)<;>rw [hd] at h3<;>simp -implicitDefEqProofs only [an,EU,EV,EW,dY,t1,hD,a1,eu,ho,a2,t2,a3,h3]
theorem ES {f:List Srt} {s:Srt} (h:wsB f s=true):woR (ins f s) s.1=f∧woB (ins f s) s.1=true:=by
 unfold wsB at h;simp only [Fb] at h;obtain⟨⟨h1,-⟩,h3⟩:=h;obtain⟨-,-,hf1,-⟩:=gp.1 h1;obtain⟨p1,p2,p3⟩:=jK f s;have hfn:fnd (ins f s) s.1=some (pos f s):=by
  have key:∀(l:List Srt) (m:List Srt) (i:Nat),(∀x∈l,¬x.1=s.1)→dM (cd s.1) i (l++s::m)=some (i+l.length):=by
   intro l;induction l with
   | nil=>intro m i _;simp [dM,cd]
   | cons x l ih =>
    intro m i hx;have hxc:cd s.1 x=false:=decide_eq_false (hx x (by simp));rw [List.cons_append,dM,hxc,ih m (i+1) fun y hy=>hx y (by simp [hy]),Ft];simp;omega
  have e:ins f s=f.take (pos f s)++s::f.drop (pos f s):=by unfold ins;simp
  unfold fnd;rw [e,key _ _ 0 fun x hx=>?_]
  ·rw [Fe]
   congr 1
   omega
  ·intro hc
   obtain⟨m,hm,rfl⟩:=List.mem_iff_getElem.1 hx;rw [Fe] at hm;rw [List.getElem_take] at hc;have:=p2 m (by omega) (by omega);rw [hc,nJ] at this;cases this
 have hb:woB (ins f s) s.1=true:=by
  unfold woB;rw [h3,hfn,vb];have:¬((f.length+1:Nat):Int)=1:=by omega
  simp only [Fm,Bool.and_self,EX,decide_eq_false this,Bool.not_false]
 refine⟨?_,hb⟩
 unfold woR;rw [if_pos hb,hfn];simp only [Fh];have hlen:(f.take (pos f s)).length=pos f s:=by rw [Fe];omega
 have e:ins f s=f.take (pos f s)++s::f.drop (pos f s):=by unfold ins;simp
 rw [e,List.take_left' hlen,List.drop_append,hlen,List.drop_eq_nil_of_le (by omega)];rw [show pos f s+1 - pos f s=1 by omega];simp
set_option maxRecDepth 100000
def onT (x:Srt):ByteArray:=x.1++dG x.2++⟨#[59]⟩
def eo (f:List Srt):ByteArray:=f.foldl (fun a x=>a++onT x) ⟨#[]⟩
structure TIn (f:List Srt):Prop where
 ln:f.length≤1000
 sz:∀x∈f,x.1.size≤100
 lo:∀x∈f,0≤x.2∧x.2<1000000
theorem TIn.of {f:List Srt} (h:cr f=true):TIn f:=by
 obtain⟨h1,-,h3,h4⟩:=gp.1 h;have key:∀x∈f,x.1.size≤3∧1≤x.2∧x.2≤54:=fun x hx=>by
  have:=h1 x hx;unfold fL ce at this;simp only [Fb,decide_eq_true_eq] at this;omega
 exact⟨by omega,fun x hx=>by have:=key x hx;omega,fun x hx=>by have:=key x hx;omega⟩
theorem mc {x:Srt} (h1:x.1.size≤100) (h2:0≤x.2∧x.2<1000000):(onT x).size≤200:=by
 have:=qb 5 (n:=x.2) h2.1 (by omega);unfold onT;simp only [Fa,sz1];omega
theorem wr {body:List D→Option Out} {K:Out→Option Out} (f:List Srt) (h:TIn f)
  (hs:∀(i:Nat) (a:ByteArray) (hi:i<f.length),a.size≤200*i→body [T a,srs f,I f.length,I i]=some (.nrm [T (a++onT f[i]),srs f,I f.length,I ((i+1:Nat):Int)]))
  (he:∀a,body [T a,srs f,I f.length,I f.length]=some (.ext 0 [T a])) (hK:∀a,K (.ext 0 [T a])=some (.ret [T a] [])):(aS body [T ⟨#[]⟩,srs f,I f.length,I 0]).bind K=some (.ret [T (eo f)] []):=by
 refine aX _ (nS f (fun i a=>[T a,srs f,I f.length,I i]) (fun i a=>a.size≤200*i) (fun _ a x=>a++onT x) (fun a=>.ext 0 [T a]) ⟨#[]⟩ (fun i a hi ha=>⟨hs i a hi ha,?_⟩) (fun a _=>he a) (fun _=>rfl) (by show 0≤_;omega) rfl) ?_
 ·have:=mc (h.sz _ (EZ hi)) (h.lo _ (EZ hi))
  simp only [Fa];omega
 ·rw [hK]
  congr 3
  have:∀(l:List Srt) (i:Nat) (a:ByteArray),jV (fun _ a x=>a++onT x) i l a=l.foldl (fun a x=>a++onT x) a:=by
   intro l;induction l with
   | nil=>intro i a;rfl
   | cons x l ih=>intro i a;rw [jV,ih,Fo]
  rw [this];rfl
theorem lf (f:List Srt) (h:TIn f):dL [srs f]=some (.ret [T (eo f)] []):=by
 rw [qK];have hl:=h.ln;have e0:D.v (Fl {data:={toList:=[]}})=T ⟨#[]⟩:=rfl;have e59:D.v (Fl {data:={toList:=[59]}})=T ⟨#[59]⟩:=rfl;simp -implicitDefEqProofs only [an,EU,EV,EW,e0,e59];refine wr f h (fun i a hi ha=>?_) (fun a=>?_) (fun a=>by simp -implicitDefEqProofs only [an,EU,EV,EW])
 ·have hi':(i:Int)<(f.length:Int):=by omega
  have hw:EY.wrap ((i:Int)+1)=((i+1:Nat):Int):=by rw [aw (by omega) (by omega)];omega
  have hg:=fh hi;have h1:=h.sz _ (EZ hi);have h2:=h.lo _ (EZ hi);have h3:=qb 5 (n:=f[i].2) h2.1 (by omega);have h4:=mc h1 h2;have hI:=DV (n:=f[i].2) (by omega) (by omega);have a1:=vz (a:=f[i].1) (b:=dG f[i].2) (bl:=false) (eq:=[]) (by omega);have a2:=vz (a:=f[i].1++dG f[i].2) (b:=⟨#[59]⟩) (bl:=false) (eq:=[]) (by simp only [Fa,sz1];omega);have a3:bin .add false [] (T a) (T (f[i].1++dG f[i].2++⟨#[59]⟩))=some (T (a++onT f[i])):=vz (by show a.size+(onT f[i]).size≤_;omega);simp -implicitDefEqProofs only [an,EU,EV,EW,hi',hg,kM,gK,iC,hI,a1,a2,a3,hw]
 ·have hlt:¬((f.length:Int)<(f.length:Int)):=by omega
  simp -implicitDefEqProofs only [an,EU,EV,EW,hlt]
theorem jq (f:List Srt) (h:TIn f):dS [srs f]=some (.ret [T (eo f)] []):=by
 rw [tM];have hl:=h.ln;have e0:D.v (Fl {data:={toList:=[]}})=T ⟨#[]⟩:=rfl;have e59:D.v (Fl {data:={toList:=[59]}})=T ⟨#[59]⟩:=rfl;simp -implicitDefEqProofs only [an,EU,EV,EW,e0,e59];refine wr f h (fun i a hi ha=>?_) (fun a=>?_) (fun a=>by simp -implicitDefEqProofs only [an,EU,EV,EW])
 ·have hi':(i:Int)<(f.length:Int):=by omega
  have hw:EY.wrap ((i:Int)+1)=((i+1:Nat):Int):=by rw [aw (by omega) (by omega)];omega
  have hg:=fh hi;have h1:=h.sz _ (EZ hi);have h2:=h.lo _ (EZ hi);have h3:=qb 5 (n:=f[i].2) h2.1 (by omega);have h4:=mc h1 h2;have hI:=uY (n:=f[i].2) (by omega) (by omega);have a1:=vz (a:=f[i].1) (b:=dG f[i].2) (bl:=false) (eq:=[]) (by omega);have a2:=vz (a:=f[i].1++dG f[i].2) (b:=⟨#[59]⟩) (bl:=false) (eq:=[]) (by simp only [Fa,sz1];omega);have a3:bin .add false [] (T a) (T (f[i].1++dG f[i].2++⟨#[59]⟩))=some (T (a++onT f[i])):=vz (by show a.size+(onT f[i]).size≤_;omega);simp -implicitDefEqProofs only [an,EU,EV,EW,hi',hg,kM,gK,iC,hI,a1,a2,a3,hw]
 ·have hlt:¬((f.length:Int)<(f.length:Int)):=by omega
  simp -implicitDefEqProofs only [an,EU,EV,EW,hlt]
def txR (f:List Srt):ByteArray:=if cr f=true then eo f else⟨#[]⟩
theorem qW (f:List Srt) (h:FIn f):eO [srs f]=some (.ret [T (txR f),B (cr f)] []):=by
 rw [qJ];have h1:=cz f h;unfold txR;cases hb:cr f<;>rw [hb] at h1
 ·simp -implicitDefEqProofs only [an,EU,EV,EW,h1]
 ·simp -implicitDefEqProofs only [an,EU,EV,EW,h1,lf f (TIn.of hb)]
theorem qF (f:List Srt) (h:FIn f):eN [srs f]=some (.ret [T (txR f),B (cr f)] []):=by
 rw [qQ];have h1:=dh f h;unfold txR;cases hb:cr f<;>rw [hb] at h1
 ·simp -implicitDefEqProofs only [an,EU,EV,EW,h1]
 ·simp -implicitDefEqProofs only [an,EU,EV,EW,h1,jq f (TIn.of hb)]
theorem yR {f:List Srt} (h:TIn f):(eo f).size≤200000:=by
 have key:∀(l:List Srt) (a:ByteArray),(∀x∈l,(onT x).size≤200)→(l.foldl (fun a x=>a++onT x) a).size≤a.size+200*l.length:=by
  intro l;induction l with
  | nil=>intro a _;simp
  | cons x l ih =>
   intro a hx;have h1:=ih (a++onT x) fun y hy=>hx y (by simp [hy])
   have h2:=hx x (by simp);rw [Fo,Ft];simp only [Fa] at h1;omega
 have:=key f ⟨#[]⟩ fun x hx=>mc (h.sz x hx) (h.lo x hx)
 have hl:=h.ln;have z:(⟨#[]⟩:ByteArray).size=0:=rfl;unfold eo;omega
theorem xE:∀(f:List Srt),ac (eo f)=(f.map fun x=>ac x.1++ac (dG x.2)++[59]).flatten:=by
 have key:∀(l:List Srt) (a:ByteArray),ac (l.foldl (fun a x=>a++onT x) a)=ac a++(l.map fun x=>ac x.1++ac (dG x.2)++[59]).flatten:=by
  intro l;induction l with
  | nil=>intro a;simp
  | cons x l ih =>
   intro a;rw [Fo,ih,bx,FO,FU,FV];unfold onT;rw [bx,bx];rfl
 intro f;unfold eo;rw [key];rfl
theorem mz {x:Srt} (h:fL x=true):(∀b∈ac x.1,97≤b.toNat∧b.toNat≤122)∧1≤(ac x.1).length∧(ac x.1).length≤3∧1≤x.2∧x.2≤54:=by
 have hz:=aO x.1;unfold fL ce at h;simp only [Fb,decide_eq_true_eq] at h;obtain⟨⟨h1,h2⟩,h3⟩:=h;rw [lB] at h1;refine⟨fun b hb=>?_,by omega,by omega,h3⟩
 have:=Fp.1 h1 b hb;unfold az at this;simp only [Fb,decide_eq_true_eq] at this;omega
theorem xG:∀{f:List Srt},(∀x∈f,fL x=true)→bo 59 (ac (eo f))=(f.map fun x=>ac x.1++ac (dG x.2))++[[]]:=by
 intro f;rw [xE];induction f with
 | nil=>intro _;rfl
 | cons x f ih =>
  intro h;obtain⟨h1,-,-,h4,h5⟩:=mz (h x (by simp));have h6:=(ru (n:=x.2) (by omega)).2;rw [FO,FU,FV,List.singleton_append,nG,ih fun y hy=>h y (by simp [hy])]
  ·rfl
  ·intro hm
   rcases Fk.1 hm with hm | hm
   ·have:=h1 59 hm
    simp at this
   ·exact Cr h6 (by decide) hm
theorem qw {f:List Srt} (h:∀x∈f,fL x=true):aF 59 (eo f)=(f.map fun x=>x.1++dG x.2)++[⟨#[]⟩]:=by
 unfold aF;rw [xG h,FX,List.map_map];have:f.map ((fun l:List UInt8=>(⟨l.toArray⟩:ByteArray)) ∘ fun x=>ac x.1++ac (dG x.2))=f.map fun x=>x.1++dG x.2:=by
  apply FP;intro x _;apply eX;rw [Function.comp_apply,iF,bx]
 rw [this];rfl
def D10:ByteArray:=⟨#[48,49,50,51,52,53,54,55,56,57]⟩
def pcI (t:ByteArray):List Srt:=if (gz t).length=1 then [(jr t D10,(gz t).getD 0 0)] else []
def tu (s:ByteArray):List Srt:=(aF 59 s).foldl (fun a t=>a++pcI t) []
theorem wF (b:UInt8):([48,49,50,51,52,53,54,55,56,57]:List UInt8).contains b=dig b:=by
 have:∀n:Fin 256,([48,49,50,51,52,53,54,55,56,57]:List UInt8).contains (Fr n.val)=dig (Fr n.val):=by decide +kernel
 have h:=this ⟨b.toNat,b.toNat_lt⟩;simpa using h
theorem xf {x:Srt} (h:fL x=true):jr (x.1++dG x.2) D10=x.1:=by
 obtain⟨h1,h2,-,h4,h5⟩:=mz h;have h6:=(ru (n:=x.2) (by omega)).2;apply eX;unfold jr;rw [iF];have e:(x.1++dG x.2).data.toList=ac x.1++ac (dG x.2):=bx _ _;have e2:D10.data.toList=[48,49,50,51,52,53,54,55,56,57]:=rfl;rw [e,e2,Lib.trimRightS_take _ _ (ac x.1).length (by simp)]
 ·simp
 ·intro j b hj hb
  rw [List.getElem?_append_right hj] at hb;rw [wF];exact h6 b (FM hb)
 ·intro b h0 hb
  rw [List.getElem?_append_left (by omega)] at hb;have:=h1 b (FM hb);rw [wF];unfold dig;have h7:¬b.toNat≤57:=by omega
  simp [h7]
theorem xD {x:Srt} (h:fL x=true):gz (x.1++dG x.2)=[x.2]:=by
 obtain⟨h1,h2,-,h4,h5⟩:=mz h;have h6:=ru (n:=x.2) (by omega);refine vS (ns:=[x.2]) (fun b hb=>?_) (fun n hn=>?_) ?_
 ·rw [bx] at hb
  rcases Fk.1 hb with hb | hb
  ·have:=h1 b hb
   omega
  ·exact Ea (h6.2 b hb)
 ·rw [Fi.1 hn]
  omega
 ·rw [bx,vH,zP h6.1 h6.2]
  ·rfl
  ·intro b hb
   have:=h1 b hb;unfold dig;have h7:¬b.toNat≤57:=by omega
   simp [h7]
theorem Aq:gz ⟨#[]⟩=[]:=vS (ns:=[]) (fun b hb=>by cases hb) (fun n hn=>by cases hn) rfl
theorem pI {f:List Srt} (h:∀x∈f,fL x=true):tu (eo f)=f:=by
 unfold tu;rw [qw h,List.foldl_append];have key:∀(l:List Srt) (a:List Srt),(∀x∈l,fL x=true)→(l.map fun x=>x.1++dG x.2).foldl (fun a t=>a++pcI t) a=a++l:=by
  intro l;induction l with
  | nil=>intro a _;simp
  | cons x l ih =>
   intro a hl;have hx:=hl x (by simp);have e:pcI (x.1++dG x.2)=[x]:=by
    unfold pcI;rw [xD hx,xf hx];rfl
   rw [FO,Fo,ih _ fun y hy=>hl y (by simp [hy]),e];simp
 rw [key f [] h];have e:pcI ⟨#[]⟩=[]:=by
  unfold pcI;rw [Aq];rfl
 simp [e]
def kl (t:ByteArray):Nat:=((ac t).takeWhile az).length
def pcS (t:ByteArray):Srt:=(t.extract 0 (kl t),ke (t.extract (kl t) t.size))
def yE (s:ByteArray):List Srt:=(aF 59 s).dropLast.map pcS
theorem xi (b:UInt8):az b=true↔97≤b.toNat∧b.toNat≤122:=by
 unfold az;rw [Fb,decide_eq_true_eq,decide_eq_true_eq];omega
theorem yN {x:Srt} (h:fL x=true):pcS (x.1++dG x.2)=x:=by
 obtain⟨h1,h2,-,h4,h5⟩:=mz h;have h6:=ru (n:=x.2) (by omega);have hn:kl (x.1++dG x.2)=(ac x.1).length:=by
  unfold kl;rw [bx,List.takeWhile_append_of_pos fun b hb=>(xi b).2 (h1 b hb)];have:(ac (dG x.2)).takeWhile az=[]:=by
   cases hc:ac (dG x.2) with
   | nil=>rfl
   | cons b l =>
    have hd:=h6.2 b (by rw [hc];simp);have hd2:=kA.1 hd;have:az b=false:=by
     rw [Fv];intro h;have:=(xi b).1 h;omega
    rw [FF,this];rfl
  rw [this];simp
 unfold pcS;rw [hn];have e1:(x.1++dG x.2).extract 0 (ac x.1).length=x.1:=by
  apply eX;rw [bU,bx];simp
 have e2:(x.1++dG x.2).extract (ac x.1).length (x.1++dG x.2).size=dG x.2:=by
  apply eX;rw [bU,aO,bx];rw [List.take_of_length_le (FJ _)];simp
 rw [e1,e2,yS (by omega) (by omega)]
theorem uk {f:List Srt} (h:∀x∈f,fL x=true):yE (eo f)=f∧(aF 59 (eo f)).length=f.length+1:=by
 unfold yE;rw [qw h];constructor
 ·rw [List.dropLast_concat,List.map_map]
  conv=>rhs;rw [←List.map_id f]
  apply FP;intro x hx;exact yN (h x hx)
 ·simp
open Classical in
def pfB (s:ByteArray):Bool:=decide (∃f,cr f=true∧eo f=s)
open Classical in
def pfR (s:ByteArray):List Srt:=if h:∃f,cr f=true∧eo f=s then Classical.choose h else []
open Classical in
theorem Ak {f:List Srt} (h:cr f=true):pfB (eo f)=true∧pfR (eo f)=f:=by
 have hex:∃g,cr g=true∧eo g=eo f:=⟨f,h,rfl⟩
 unfold pfB pfR;refine⟨decide_eq_true hex,?_⟩
 rw [dif_pos hex];have hc:=FL hex;have h1:=pI (gp.1 h).1;have h2:=pI (gp.1 hc.1).1;rw [hc.2,h1] at h2;exact h2.symm
open Classical in
theorem Dp {s:ByteArray} {p:List Srt} (hp:∀f,cr f=true→eo f=s→p=f):pfB s=(cr p&&decide (eo p=s))∧pfR s=if (cr p&&decide (eo p=s))=true then p else []:=by
 by_cases hex:∃f,cr f=true∧eo f=s
 ·obtain⟨f,h1,rfl⟩:=hex
  obtain⟨q1,q2⟩:=Ak h1;rw [hp f h1 rfl,q1,q2,h1];simp
 ·have hn:(cr p&&decide (eo p=s))=false:=by
   rw [Fv];intro h;rw [Fb,decide_eq_true_eq] at h;exact hex ⟨p,h.1,h.2⟩
  rw [hn];unfold pfB pfR;rw [dif_neg hex,decide_eq_false hex];exact⟨rfl,rfl⟩
open Classical in
theorem vJ {s:ByteArray} (h:pfB s=true):cr (pfR s)=true∧eo (pfR s)=s:=by
 unfold pfB at h;have hex:=of_decide_eq_true h;unfold pfR;rw [dif_pos hex];exact FL hex
set_option maxRecDepth 100000
theorem kr (c:UInt8) (s:ByteArray):(aF c s).length≤s.size+1:=by
 rw [tC,aO];exact nb c _
theorem kB {l:List ByteArray} {i:Nat} (h:i<l.length):bF 1 (.arr 1 (l.map T)) (I (i:Int))=some [T l[i]]:=by simp [h]
theorem wE (t p:ByteArray):(jr t p).size≤t.size:=by
 unfold jr Lib.trimRightS;have h:=(List.dropWhile_sublist (p.data.toList.contains ·) (l:=t.data.toList.reverse)).length_le;rw [List.length_reverse] at h;show((t.data.toList.reverse.dropWhile _).reverse.toArray).size≤t.data.toList.length
 rw [List.size_toArray,List.length_reverse];exact h
theorem vy (t:ByteArray) (h:t.size≤1000000):fO [T t,T D10]=some (.ret [T (jr t D10)] []):=by
 have h1:t.size≤9223372036854775807:=by omega
 have h2:D10.size<4294967281:=by decide
 have h3:(D10.data.toList.all fun b=>decide (b.toNat<128))=true:=by decide
 simp only [fO,h1,h2,h3,and_self,if_true]
theorem CP {s:ByteArray} (h:s.size≤900000):FIn (tu s):=by
 have hl:=kr 59 s;have hs:=jc 59 s;have key:∀(l:List ByteArray) (a:List Srt),(∀t∈l,t.size≤s.size)→(∀x∈a,x.1.size≤s.size)→(l.foldl (fun a t=>a++pcI t) a).length≤a.length+l.length∧∀x∈l.foldl (fun a t=>a++pcI t) a,x.1.size≤s.size:=by
  intro l;induction l with
  | nil=>intro a _ h;exact⟨by simp,h⟩
  | cons t l ih =>
   intro a h1 h2;have ht:=h1 t (by simp);have hp:(pcI t).length≤1∧∀x∈pcI t,x.1.size≤s.size:=by
    unfold pcI;split
    ·refine⟨by simp,fun x hx=>?_⟩
     rw [Fi.1 hx];have:=wE t D10;show(jr t D10).size≤_
     omega
    ·simp
   obtain⟨g1,g2⟩:=ih (a++pcI t) (fun y hy=>h1 y (by simp [hy])) (fun x hx=>by
    rcases Fk.1 hx with hx | hx
    ·exact h2 x hx
    ·exact hp.2 x hx)
   rw [Fo];refine⟨?_,g2⟩
   rw [Fu] at g1;rw [Ft];omega
 obtain⟨g1,g2⟩:=key (aF 59 s) [] hs (by simp);refine⟨?_,fun x hx=>?_⟩
 ·unfold tu
  rw [Fy] at g1;omega
 ·have:=g2 x hx
  omega
theorem jF (s:ByteArray) (h:s.size≤900000):dr [T s]=some (.ret [srs (pfR s),B (pfB s)] []):=by
 rw [pS];have hl:=kr 59 s;have hs:=jc 59 s;have e59:D.v (Fl {data:={toList:=[59]}})=T ⟨#[59]⟩:=rfl;have e0:D.v (Fl {data:={toList:=[]}})=T ⟨#[]⟩:=rfl;have e10:D.v (Fl {data:={toList:=[48,49,50,51,52,53,54,55,56,57]}})=T D10:=rfl;have hsp:=CX (c:=59) (s:=s) (by omega);obtain⟨q1,q2⟩:=Dp (s:=s) (p:=tu s) (fun f h1 h2=>by rw [←h2];exact pI (gp.1 h1).1);rw [q1,q2];simp -implicitDefEqProofs only [an,EU,EV,EW,dY,e59,hsp,e10,e0];refine aX _ (nS (aF 59 s) (fun i a=>[T s,srs a,.arr 1 ((aF 59 s).map T),I (aF 59 s).length,I i]) (fun i a=>a.length≤i) (fun _ a t=>a++pcI t) (fun a=>.ext 0 [T s,srs a]) [] (fun i a hi ha=>⟨?_,?_⟩) (fun a ha=>?_) (fun _=>rfl) (by simp) rfl) ?_
 ·have hi':(i:Int)<((aF 59 s).length:Int):=by omega
  have hw:EY.wrap ((i:Int)+1)=((i+1:Nat):Int):=by rw [aw (by omega) (by omega)];omega
  have hg:=kB hi;have hz:=hs _ (EZ hi);have h1:=vy (aF 59 s)[i] (by omega);have h2:=pV (aF 59 s)[i] (by omega);unfold pcI;by_cases hc:(gz (aF 59 s)[i]).length=1
  ·have hc':((gz (aF 59 s)[i]).length:Int)=1:=by omega
   have hgn:bF 1 (sJ (gz (aF 59 s)[i])) (I 0)=some [I ((gz (aF 59 s)[i]).getD 0 0)]:=by
    cases hn:gz (aF 59 s)[i] with
    | nil=>rw [hn] at hc;simp at hc
    | cons x l=>simp
   have ho:=nV (jr (aF 59 s)[i] D10) ((gz (aF 59 s)[i]).getD 0 0);have hap:=ee (l:=a) (m:=[(jr (aF 59 s)[i] D10,(gz (aF 59 s)[i]).getD 0 0)]) (by simp only [Fg];omega);rw [if_pos hc];simp -implicitDefEqProofs only [an,EU,EV,EW,hi',hg,h1,h2,hc',hgn,nC,ho,hD,hap,hw]
  ·have hc':¬((gz (aF 59 s)[i]).length:Int)=1:=by omega
   rw [if_neg hc,List.append_nil];simp -implicitDefEqProofs only [an,EU,EV,EW,hi',hg,h1,h2,hc',hw]
 ·unfold pcI
  split<;>simp<;>omega
 ·have hlt:¬(((aF 59 s).length:Int)<((aF 59 s).length:Int)):=by omega
  simp -implicitDefEqProofs only [an,EU,EV,EW,hlt]
 ·have hfo:jV (fun _ (a:List Srt) t=>a++pcI t) 0 (aF 59 s) []=tu s:=by
   have:∀(l:List ByteArray) (i:Nat) (a:List Srt),jV (fun _ a t=>a++pcI t) i l a=l.foldl (fun a t=>a++pcI t) a:=by
    intro l;induction l with
    | nil=>intro i a;rfl
    | cons x l ih=>intro i a;rw [jV,ih,Fo]
   exact this _ _ _
  rw [hfo];have h1:=cz (tu s) (CP h);cases hb:cr (tu s)<;>rw [hb] at h1
  ·simp -implicitDefEqProofs only [an,EU,EV,EW,h1,dY,Fc]
  ·have h2:=lf (tu s) (TIn.of hb)
   by_cases hc:eo (tu s)=s
   ·simp -implicitDefEqProofs only [an,EU,EV,EW,h1,h2,km,hc,EX]
   ·simp -implicitDefEqProofs only [an,EU,EV,EW,h1,h2,km,hc,EX,dY]
theorem ud:∀(l:List UInt8) (i:Nat),(dM (fun b=>!az b) i l).elim (i+l.length) id=i+(l.takeWhile az).length
 | [],i=>rfl
 | b::l,i=>by
  by_cases hb:az b=true
  ·have ih:=ud l (i+1)
   have e1:dM (fun b=>!az b) i (b::l)=dM (fun b=>!az b) (i+1) l:=by rw [dM,if_neg (by simp [hb])]
   rw [e1,FF,if_pos hb,Ft,Ft,show i+(l.length+1)=i+1+l.length by omega,ih];omega
  ·have e1:dM (fun b=>!az b) i (b::l)=some i:=by rw [dM,if_pos (by simp [hb])]
   rw [e1,FF,if_neg hb];rfl
theorem sy {s:ByteArray} {i:Nat} (h:i<(ac s).length):ec (T s) (I (i:Int))=some (U (ac s)[i].toNat):=by
 rw [dw,FI h];rfl
theorem Cz {s:ByteArray} (h:s.size≤900000):FIn (yE s):=by
 have hl:=kr 59 s;have hs:=jc 59 s;unfold yE;refine⟨by rw [FD,FN];omega,fun x hx=>?_⟩
 obtain⟨t,ht,rfl⟩:=List.mem_map.1 hx;have:=hs t (List.dropLast_subset _ ht);unfold pcS;simp only [FK];omega
theorem pK (s:ByteArray) (h:s.size≤900000):em [T s]=some (.ret [srs (pfR s),B (pfB s)] []):=by
 rw [pJ];have hl:=kr 59 s;have hs:=jc 59 s;have hne:aF 59 s≠[]:=by
  unfold aF;intro e;exact mo _ _ (List.map_eq_nil_iff.1 e)
 have hpos:=List.length_pos_iff.2 hne;have e59:D.v (Value.int FH 59)=U ((59:UInt8).toNat):=rfl;have e0:D.v (Fl {data:={toList:=[]}})=T ⟨#[]⟩:=rfl;have hsp:=sU s 59 (by omega);rw [e59];by_cases hbig:33<((aF 59 s).length:Int)
 ·have hn:¬∃f,cr f=true∧eo f=s:=by
   rintro⟨f,h1,rfl⟩;have h2:=(uk (gp.1 h1).1).2;have h3:=(gp.1 h1).2.2.2;omega
  have q1:pfB s=false:=by
   rw [Fv];exact fun hp=>hn ⟨_,vJ hp⟩
  have q2:pfR s=[]:=by
   unfold pfR;rw [dif_neg hn]
  rw [q1,q2];simp -implicitDefEqProofs only [an,EU,EV,EW,hsp,hbig,dY]
 obtain⟨q1,q2⟩:=Dp (s:=s) (p:=yE s) (fun f h1 h2=>by rw [←h2];exact(uk (gp.1 h1).1).1);rw [q1,q2];have hwl:EY.wrap (((aF 59 s).length:Int) - 1)=(((aF 59 s).length - 1:Nat):Int):=by rw [aw (by omega) (by omega)];omega
 have hdl:bZ false 1 (.arr 1 ((aF 59 s).map T)) (I 0) (I (((aF 59 s).length - 1:Nat):Int))=some (txs (aF 59 s).dropLast):=by
  have:=xF (z:=1) (i:=0) (j:=(aF 59 s).length - 1) (l:=(aF 59 s).map T) (k:=.i64) (k':=.i64) (by omega) (by rw [FD];omega);rw [List.drop_zero,←List.map_take] at this;rw [List.dropLast_eq_take];exact this
 simp -implicitDefEqProofs only [an,EU,EV,EW,hsp,hbig,hwl,hdl,dY,e0];have hl2:(aF 59 s).dropLast.length≤33:=by rw [FN];omega
 have hs2:∀t∈(aF 59 s).dropLast,t.size≤s.size:=fun t ht=>hs t (List.dropLast_subset _ ht)
 have hpS:yE s=(aF 59 s).dropLast.map pcS:=rfl;have hin:=Cz h;rw [hpS] at hin ⊢;generalize (aF 59 s).dropLast=ps at hl2 hs2 hin;refine aX _ (nS ps (fun i a=>[T s,srs a,txs ps,I ps.length,I i]) (fun i a=>a.length≤i) (fun _ a t=>a++[pcS t]) (fun a=>.ext 0 [T s,srs a]) [] (fun i a hi ha=>⟨?_,by simp;omega⟩) (fun a ha=>?_) (fun _=>rfl) (by simp) rfl) ?_
 ·have hi':(i:Int)<(ps.length:Int):=by omega
  have hw:EY.wrap ((i:Int)+1)=((i+1:Nat):Int):=by rw [aw (by omega) (by omega)];omega
  have hg:=kB hi;have hz:=hs2 _ (EZ hi);have hsz:=aO ps[i];generalize ps[i]=t at hg hz hsz;simp -implicitDefEqProofs only [an,EU,EV,EW,hi',hg];refine aX _ (qg (ac t) (fun n=>[T s,srs a,T t,I n,txs ps,I ps.length,I i]) (fun b=>!az b) (fun n=>.ext 2 [T s,srs a,T t,I n,txs ps,I ps.length,I i]) (.ext 2 [T s,srs a,T t,I (ac t).length,txs ps,I ps.length,I i]) (fun n hn=>?_) ?_ (fun _=>rfl) rfl rfl) ?_
  ·have hn':(n:Int)<(t.size:Int):=by omega
   have hwn:EY.wrap ((n:Int)+1)=((n+1:Nat):Int):=by rw [aw (by omega) (by omega)];omega
   have hch:=sy hn;unfold az;by_cases k1:97≤((ac t)[n].toNat:Int)
   ·by_cases k2:((ac t)[n].toNat:Int)≤122<;>simp -implicitDefEqProofs only [an,EU,EV,EW,hn',hch,k1,k2,hwn,Bool.and_self,Bool.and_false]
   ·simp -implicitDefEqProofs only [an,EU,EV,EW,hn',hch,k1,Fc]
  ·have hlt:¬(((ac t).length:Int)<(t.size:Int)):=by omega
   simp -implicitDefEqProofs only [an,EU,EV,EW,hlt]
  ·have hlf:=ud (ac t) 0
   rw [Fw,Fw] at hlf;have hle:kl t≤t.size:=by
    unfold kl;rw [hsz];exact(List.takeWhile_sublist _).length_le
   have e:(dM (fun b=>!az b) 0 (ac t)).elim (Out.ext 2 [T s,srs a,T t,I (ac t).length,txs ps,I ps.length,I i]) (fun n=>.ext 2 [T s,srs a,T t,I n,txs ps,I ps.length,I i]) = .ext 2 [T s,srs a,T t,I (kl t),txs ps,I ps.length,I i]:=by
    unfold kl;rw [←hlf];cases dM (fun b=>!az b) 0 (ac t)<;>rfl
   rw [e];have s1:bZ true 0 (T t) (I 0) (I (kl t:Int))=some (T (t.extract 0 (kl t))):=sf (i:=0) (by omega) hle;have s2:=pl (s:=t) (z:=0) hle;have hr:=tS (t.extract (kl t) t.size) (by rw [FK];omega);have ho:aA 2 [.agg [T (t.extract 0 (kl t)),I (ke (t.extract (kl t) t.size))]]=some (srs [pcS t]):=nV _ _;have hap:=ee (l:=a) (m:=[pcS t]) (by simp only [Fg];omega);simp -implicitDefEqProofs only [an,EU,EV,EW,s1,s2,hr,nC,ho,hD,hap,hw]
 ·have hlt:¬((ps.length:Int)<(ps.length:Int)):=by omega
  simp -implicitDefEqProofs only [an,EU,EV,EW,hlt]
 ·have hfo:jV (fun _ (a:List Srt) t=>a++[pcS t]) 0 ps []=ps.map pcS:=by
   have:∀(l:List ByteArray) (i:Nat) (a:List Srt),jV (fun _ a t=>a++[pcS t]) i l a=a++l.map pcS:=by
    intro l;induction l with
    | nil=>intro i a;simp [jV]
    | cons x l ih=>intro i a;rw [jV,ih];simp
   rw [this,Fq]
  rw [hfo];have h1:=dh (ps.map pcS) hin;cases hb:cr (ps.map pcS)<;>rw [hb] at h1
  ·simp -implicitDefEqProofs only [an,EU,EV,EW,h1,dY,Fc]
  ·have h2:=jq (ps.map pcS) (TIn.of hb)
   by_cases hc:eo (ps.map pcS)=s
   ·simp -implicitDefEqProofs only [an,EU,EV,EW,h1,h2,km,hc,EX]
   ·simp -implicitDefEqProofs only [an,EU,EV,EW,h1,h2,km,hc,EX,dY]
set_option maxRecDepth 100000
def gy (k:Nat):UInt8:=Fr (97+k)
def fP (k:Nat):ByteArray:=⟨#[gy k]⟩
abbrev R32 (n:Int):D:=.v (.int .i32 n)
theorem Bc {k:Nat} (h:k<26):vA (R32 ((97+k:Nat):Int))=some (T (fP k)):=by
 have key:∀k:Fin 26,Utf8.encode ((97+k.val:Nat):Int)=fP k.val:=by decide +kernel
 show some (T (Utf8.encode _))=_
 rw [key ⟨k,h⟩]
theorem Al {k:Nat} (h:k<26):ex (some .u8) false (R32 ((97+k:Nat):Int))=some (U ((gy k).toNat:Int)):=by
 have key:∀k:Fin 26,FH.wrap ((97+k.val:Nat):Int)=((gy k.val).toNat:Int):=by decide +kernel
 show some (U (FH.wrap _))=_
 rw [key ⟨k,h⟩]
theorem xQ {s:ByteArray} {i:Nat} (h:i<(ac s).length):s.extract i (i+1)=⟨#[(ac s)[i]]⟩:=by
 apply eX;rw [bU];have:((ac s).take (i+1)).drop i=[(ac s)[i]]:=by
  rw [List.take_succ_eq_append_getElem h,List.drop_append_of_le_length (by rw [Fe];omega)];simp
 rw [this];rfl
theorem vn (l:List UInt8) (c:UInt8):FQ l [c]=l.contains c:=by
 unfold FQ;rcases od c l with ⟨h1,h2⟩ | ⟨a,b,rfl,h2,h3⟩
 ·rw [h1]
  have:l.contains c=false:=by
   rw [Fv];exact fun h=>h2 (FC.1 h)
  rw [this];rfl
 ·rw [h3]
  have:(a++c::b).contains c=true:=FC.2 (by simp);rw [this];exact decide_eq_true (by omega)
theorem wY (w:ByteArray) (k:Nat) (h:w.size<4294967281):hZ [T w,T (fP k)]=some (.ret [B ((ac w).contains (gy k))] []):=by
 simp only [hZ,h,if_true];have:FQ w.data.toList (fP k).data.toList=(ac w).contains (gy k):=vn (ac w) (gy k);rw [this]
def Df (ws:List ByteArray) (k:Nat):Bool:=ws.any fun w=>(ac w).contains (gy k)
def mlP (f:List Srt) (ws:List ByteArray) (k:Nat):Bool:=Df ws k&&(fnd f (fP k)).isNone
def mlT (f:List Srt) (ws:List ByteArray):Nat→ByteArray
 | 0=>⟨#[]⟩
 | k+1=>if mlP f ws k=true then mlT f ws k++fP k else mlT f ws k
theorem ov (f:List Srt) (ws:List ByteArray):∀k,(mlT f ws k).size≤k
 | 0=>FJ _
 | k+1=>by
  have ih:=ov f ws k;have:(fP k).size=1:=rfl;rw [mlT];split
  ·rw [Fa];omega
  ·omega
def uW (ws:List ByteArray):Bool:=(ws.all fun w=>ce w 1 16)&&decide ((ws.length:Int)≤40)
structure WIn (ws:List ByteArray):Prop where
 ln:ws.length≤1000000
 sz:∀w∈ws,w.size≤1000000
theorem tV (s:ByteArray) (h:s.size≤9223372036854775807):gj [T s]=some (.ret [B (ce s 1 16)] []):=by
 rw [tr];simp -implicitDefEqProofs only [an,EU,EV,EW,ji s 1 16 h]
theorem tG (s:ByteArray) (h:s.size≤9223372036854775807):fW [T s]=some (.ret [B (ce s 1 16)] []):=by
 rw [tT];simp -implicitDefEqProofs only [an,EU,EV,EW,jX s 16 h]
theorem qX (ws:List ByteArray) (h:WIn ws):eM [txs ws]=some (.ret [B (uW ws)] []):=by
 rw [qY];have hl:=h.ln;simp -implicitDefEqProofs only [an,EU,EV,EW];refine aX _ (lS ws (fun i=>[txs ws,txs ws,I ws.length,I i]) (fun _ w=>ce w 1 16) (.ret [B false] []) (.ext 0 [txs ws]) (fun i hi=>?_) ?_ rfl rfl rfl) ?_
 ·have hi':(i:Int)<(ws.length:Int):=by omega
  have hw:EY.wrap ((i:Int)+1)=((i+1:Nat):Int):=by rw [aw (by omega) (by omega)];omega
  have hg:=kB hi;have hp:=tV ws[i] (by have:=h.sz _ (EZ hi);omega);cases hc:ce ws[i] 1 16<;>rw [hc] at hp<;>simp -implicitDefEqProofs only [an,EU,EV,EW,hi',hg,hp,hw]
 ·have hlt:¬((ws.length:Int)<(ws.length:Int)):=by omega
  simp -implicitDefEqProofs only [an,EU,EV,EW,hlt]
 ·rw [lB]
  unfold uW;cases ws.all fun w=>ce w 1 16
  ·simp -implicitDefEqProofs only [an,EU,EV,EW,jO,Fc]
  ·simp -implicitDefEqProofs only [an,EU,EV,EW,EX]
theorem so (ws:List ByteArray) (h:WIn ws):fi [txs ws]=some (.ret [B (uW ws)] []):=by
 rw [sY];have hl:=h.ln;simp -implicitDefEqProofs only [an,EU,EV,EW];refine aX _ (lS ws (fun i=>[txs ws,txs ws,I ws.length,I i]) (fun _ w=>ce w 1 16) (.ret [B false] []) (.ext 0 [txs ws]) (fun i hi=>?_) ?_ rfl rfl rfl) ?_
 ·have hi':(i:Int)<(ws.length:Int):=by omega
  have hw:EY.wrap ((i:Int)+1)=((i+1:Nat):Int):=by rw [aw (by omega) (by omega)];omega
  have hg:=kB hi;have hp:=tG ws[i] (by have:=h.sz _ (EZ hi);omega);cases hc:ce ws[i] 1 16<;>rw [hc] at hp<;>simp -implicitDefEqProofs only [an,EU,EV,EW,hi',hg,hp,hw]
 ·have hlt:¬((ws.length:Int)<(ws.length:Int)):=by omega
  simp -implicitDefEqProofs only [an,EU,EV,EW,hlt]
 ·rw [lB]
  unfold uW;cases ws.all fun w=>ce w 1 16
  ·simp -implicitDefEqProofs only [an,EU,EV,EW,jO,Fc]
  ·simp -implicitDefEqProofs only [an,EU,EV,EW,EX]
theorem kg {β:Type} (p:β→Bool):∀(l:List β) (b:Bool),l.foldl (fun b x=>b||p x) b=(b||l.any p)
 | [],b=>by simp
 | x::l,b=>by
  rw [Fo,kg p l,List.any_cons,Bool.or_assoc]
theorem pq (l:List UInt8) (c:UInt8):(l.any fun x=>decide (x=c))=l.contains c:=by
 rw [Bool.eq_iff_iff,List.any_eq_true,FC];constructor
 ·rintro⟨x,hx,h⟩
  rw [←of_decide_eq_true h];exact hx
 ·exact fun h=>⟨c,h,decide_eq_true rfl⟩
def mlB (f:List Srt) (ws:List ByteArray):Bool:=cr f&&uW ws
def mlR (f:List Srt) (ws:List ByteArray):ByteArray:=if mlB f ws=true then mlT f ws 26 else⟨#[]⟩
theorem AH {k:Nat} (h:k≤30):IntKind.i32.wrap (((97+k:Nat):Int)+1)=((97+(k+1):Nat):Int):=by
 simp only [IntKind.wrap_i32];omega
theorem ly (f:List Srt) (ws:List ByteArray) (h:FIn f) (h2:WIn ws):cI [srs f,txs ws]=some (.ret [T (mlR f ws),B (mlB f ws)] []):=by
 rw [ll];have h3:=cz f h;have h4:=qX ws h2;have hwl:=h2.ln;have e0:D.v (Fl {data:={toList:=[]}})=T ⟨#[]⟩:=rfl;unfold mlR mlB;cases hb:cr f<;>rw [hb] at h3
 ·simp -implicitDefEqProofs only [an,EU,EV,EW,h3,Fc]
 cases hc:uW ws<;>rw [hc] at h4
 ·simp -implicitDefEqProofs only [an,EU,EV,EW,h3,h4,EX]
 simp -implicitDefEqProofs only [an,EU,EV,EW,h3,h4,EX,e0];refine aX _ (oO 26 (fun k=>[srs f,txs ws,T (mlT f ws k),R32 ((97+k:Nat):Int)]) (.ext 0 [T (mlT f ws 26)]) (fun k hk=>?_) ?_ rfl rfl) ?_
 ·have hle:((97+k:Nat):Int)≤122:=by omega
  have hru:=Bc hk;have hw32:=AH (k:=k) (by omega);simp -implicitDefEqProofs only [an,EU,EV,EW,hle,hru];refine aX _ (ie ws (fun i b=>[srs f,txs ws,T (mlT f ws k),R32 ((97+k:Nat):Int),T (fP k),.v (.bool b),txs ws,I ws.length,I i]) (fun b w=>b||(ac w).contains (gy k)) (fun b=>.ext 2 [srs f,txs ws,T (mlT f ws k),R32 ((97+k:Nat):Int),T (fP k),.v (.bool b)]) false (fun i b hi=>?_) (fun b=>?_) (fun _=>rfl) rfl) ?_
  ·have hi':(i:Int)<(ws.length:Int):=by omega
   have hw:EY.wrap ((i:Int)+1)=((i+1:Nat):Int):=by rw [aw (by omega) (by omega)];omega
   have hg:=kB hi;have hcn:=wY ws[i] k (by have:=h2.sz _ (EZ hi);omega);cases b
   ·simp -implicitDefEqProofs only [an,EU,EV,EW,hi',hg,hcn,hw,Fx]
   ·simp -implicitDefEqProofs only [an,EU,EV,EW,hi',hg,hw,FR]
  ·have hlt:¬((ws.length:Int)<(ws.length:Int)):=by omega
   simp -implicitDefEqProofs only [an,EU,EV,EW,hlt]
  ·rw [kg,Fx]
   have hsa:=jw f (fP k) h;have hz:=ov f ws k;have hz1:(fP k).size=1:=rfl;have had:=vz (a:=mlT f ws k) (b:=fP k) (bl:=false) (eq:=[]) (by omega);rw [mlT];unfold mlP Df;cases ws.any fun w=>(ac w).contains (gy k)
   ·simp -implicitDefEqProofs only [an,EU,EV,EW,Fc,hw32]
   ·cases hf:fnd f (fP k) with
    | none =>
     rw [hf] at hsa;simp -implicitDefEqProofs only [an,EU,EV,EW,hsa,Fh,show((-1:Int)<0) by decide,EX,Option.isNone_none,had,hw32]
    | some j =>
     rw [hf] at hsa;have hn:¬(j:Int)<0:=by omega
     simp -implicitDefEqProofs only [an,EU,EV,EW,hsa,Fh,hn,EX,Option.isNone_some,hw32]
 ·have hle:¬((97+26:Nat):Int)≤122:=by omega
  simp -implicitDefEqProofs only [an,EU,EV,EW,hle]
 ·simp -implicitDefEqProofs only [an,EU,EV,EW]
theorem lA (f:List Srt) (ws:List ByteArray) (h:FIn f) (h2:WIn ws):cJ [srs f,txs ws]=some (.ret [T (mlR f ws),B (mlB f ws)] []):=by
 rw [lq];have h3:=dh f h;have h4:=so ws h2;have hwl:=h2.ln;have e0:D.v (Fl {data:={toList:=[]}})=T ⟨#[]⟩:=rfl;unfold mlR mlB;cases hb:cr f<;>rw [hb] at h3
 ·simp -implicitDefEqProofs only [an,EU,EV,EW,h3,Fc]
 cases hc:uW ws<;>rw [hc] at h4
 ·simp -implicitDefEqProofs only [an,EU,EV,EW,h3,h4,EX]
 simp -implicitDefEqProofs only [an,EU,EV,EW,h3,h4,EX,e0];refine aX _ (oO 26 (fun k=>[srs f,txs ws,T (mlT f ws k),R32 ((97+k:Nat):Int)]) (.ext 0 [T (mlT f ws 26)]) (fun k hk=>?_) ?_ rfl rfl) ?_
 ·have hle:((97+k:Nat):Int)≤122:=by omega
  have hcv:=Al hk;have hmk:=mkU ((gy k).toNat:Int);have hst:lp (.arr 1 [U ((gy k).toNat:Int)])=some (T (fP k)):=po (gy k);have hw32:=AH (k:=k) (by omega);simp -implicitDefEqProofs only [an,EU,EV,EW,hle,hcv,hmk,hst];refine aX _ (ie ws (fun i b=>[srs f,txs ws,T (mlT f ws k),R32 ((97+k:Nat):Int),T (fP k),.v (.bool b),txs ws,I ws.length,I i]) (fun b w=>b||(ac w).contains (gy k)) (fun b=>.ext 2 [srs f,txs ws,T (mlT f ws k),R32 ((97+k:Nat):Int),T (fP k),.v (.bool b)]) false (fun i b hi=>?_) (fun b=>?_) (fun _=>rfl) rfl) ?_
  ·have hi':(i:Int)<(ws.length:Int):=by omega
   have hw:EY.wrap ((i:Int)+1)=((i+1:Nat):Int):=by rw [aw (by omega) (by omega)];omega
   have hg:=kB hi;have hz:=h2.sz _ (EZ hi);generalize ws[i]=w at hg hz;have hsz:=aO w;simp -implicitDefEqProofs only [an,EU,EV,EW,hi',hg];refine aX _ (ie (ac w) (fun j b=>[srs f,txs ws,T (mlT f ws k),R32 ((97+k:Nat):Int),T (fP k),.v (.bool b),T w,I j,txs ws,I ws.length,I i]) (fun b x=>b||decide (x=gy k)) (fun b=>.ext 4 [srs f,txs ws,T (mlT f ws k),R32 ((97+k:Nat):Int),T (fP k),.v (.bool b),txs ws,I ws.length,I i]) b (fun j b hj=>?_) (fun b=>?_) (fun _=>rfl) rfl) ?_
   ·have hj':(j:Int)<(w.size:Int):=by omega
    have hwj:EY.wrap ((j:Int)+1)=((j+1:Nat):Int):=by rw [aw (by omega) (by omega)];omega
    have hsl:=sf (s:=w) (z:=0) (i:=j) (j:=j+1) (by omega) (by omega);rw [xQ hj] at hsl;have he:decide ((⟨#[(ac w)[j]]⟩:ByteArray)=fP k)=decide ((ac w)[j]=gy k):=by
     apply decide_eq_decide.2;unfold fP;constructor
     ·intro h
      have:=congrArg ac h;simpa [ac] using this
     ·intro h
      rw [h]
    cases b
    ·simp -implicitDefEqProofs only [an,EU,EV,EW,hj',hwj,hsl,oZ,he,Fx]
    ·simp -implicitDefEqProofs only [an,EU,EV,EW,hj',hwj,FR]
   ·have hlt:¬(((ac w).length:Int)<(w.size:Int)):=by omega
    simp -implicitDefEqProofs only [an,EU,EV,EW,hlt]
   ·rw [kg,pq]
    simp -implicitDefEqProofs only [an,EU,EV,EW,hw]
  ·have hlt:¬((ws.length:Int)<(ws.length:Int)):=by omega
   simp -implicitDefEqProofs only [an,EU,EV,EW,hlt]
  ·rw [kg,Fx]
   have hsa:=gf f (fP k) h;have hz:=ov f ws k;have hz1:(fP k).size=1:=rfl;have had:=vz (a:=mlT f ws k) (b:=fP k) (bl:=false) (eq:=[]) (by omega);rw [mlT];unfold mlP Df;cases ws.any fun w=>(ac w).contains (gy k)
   ·simp -implicitDefEqProofs only [an,EU,EV,EW,Fc,hw32]
   ·cases hf:fnd f (fP k) with
    | none =>
     rw [hf] at hsa;simp -implicitDefEqProofs only [an,EU,EV,EW,hsa,Fh,show((-1:Int)<0) by decide,EX,Option.isNone_none,had,hw32]
    | some j =>
     rw [hf] at hsa;have hn:¬(j:Int)<0:=by omega
     simp -implicitDefEqProofs only [an,EU,EV,EW,hsa,Fh,hn,EX,Option.isNone_some,hw32]
 ·have hle:¬((97+26:Nat):Int)≤122:=by omega
  simp -implicitDefEqProofs only [an,EU,EV,EW,hle]
 ·simp -implicitDefEqProofs only [an,EU,EV,EW]
theorem uM (f:List Srt) (ws:List ByteArray):∀(n:Nat) (b:UInt8),b∈ac (mlT f ws n)→∃k,k<n∧b=gy k∧mlP f ws k=true
 | 0,b,h=>by cases h
 | n+1,b,h=>by
  rw [mlT] at h;by_cases hp:mlP f ws n=true
  ·rw [if_pos hp,bx] at h
   rcases Fk.1 h with h | h
   ·obtain⟨k,h1,h2⟩:=uM f ws n b h
    exact⟨k,by omega,h2⟩
   ·have:b=gy n:=Fi.1 h
    exact⟨n,by omega,this,hp⟩
  ·rw [if_neg hp] at h
   obtain⟨k,h1,h2⟩:=uM f ws n b h;exact⟨k,by omega,h2⟩
set_option maxRecDepth 100000
def asc (s:ByteArray):Prop:=∀b∈ac s,b.toNat<128
theorem rk {a b:ByteArray} (h1:asc a) (h2:asc b):asc (a++b):=by
 intro x hx;rw [bx] at hx;rcases Fk.1 hx with hx | hx
 ·exact h1 x hx
 ·exact h2 x hx
theorem xV:asc ⟨⟨[]⟩⟩:=fun b hb=>by cases hb
theorem tS' (l:List UInt8):(D.v (Fl {data:={toList:=l}}))=T ⟨⟨l⟩⟩:=rfl
theorem yc (l:List UInt8) (h:(l.all fun b=>decide (b.toNat<128))=true):asc ⟨⟨l⟩⟩:=fun b hb=>of_decide_eq_true (Fp.1 h b hb)
structure Tx (n:Nat) (s:ByteArray):Prop where
 sz:s.size≤n
 ok:asc s
def txB (n:Nat) (l:List ByteArray):Bool:=l.all fun s=>decide (s.size≤n)&&(ac s).all fun b=>decide (b.toNat<128)
theorem pf {n:Nat} {l:List ByteArray} (h:txB n l=true):∀s∈l,Tx n s:=by
 intro s hs;have:=Fp.1 h s hs;rw [Fb,decide_eq_true_eq] at this;exact⟨this.1,fun b hb=>of_decide_eq_true (Fp.1 this.2 b hb)⟩
def W10:List ByteArray:=[⟨⟨[97]⟩⟩,⟨⟨[98]⟩⟩,⟨⟨[99]⟩⟩,⟨⟨[97,98]⟩⟩,⟨⟨[98,98]⟩⟩,⟨⟨[97,98,99]⟩⟩,⟨⟨[100]⟩⟩,⟨⟨[101]⟩⟩,⟨⟨[102]⟩⟩,⟨⟨[102,105]⟩⟩]
theorem As:∀s∈W10,1≤s.size∧s.size≤3:=by
 intro s hs;simp only [W10,FG,FW,or_false] at hs;rcases hs with rfl | rfl | rfl | rfl | rfl | rfl | rfl | rfl | rfl | rfl<;>exact⟨by decide,by decide⟩
theorem DX:∀s∈W10,Tx 3 s:=pf (by decide)
theorem vg {a b:ByteArray} (h:a.size+b.size≤100000000):bin .add false [] (T a) (T b)=some (T (a++b)):=by
 rw [pg,if_pos (by omega)]
theorem BI (c:Cur) (B:Nat) (h:c.ok B) (hB:B≤1000000000):∃(s:ByteArray) (c':Cur),bg [bB c]=some (.ret [T s] [bB c'])∧Tx 8 s∧c'.ok (B+20):=by
 rw [oz];obtain⟨v,c1,e1,l1,u1,k1⟩:=dE c 6 B h (by omega) (by omega);obtain⟨v,rfl⟩:=Fj l1;have hv:v<6:=by omega
 have m10:aA 1 [T ⟨⟨[97]⟩⟩,T ⟨⟨[98]⟩⟩,T ⟨⟨[99]⟩⟩,T ⟨⟨[97,98]⟩⟩,T ⟨⟨[98,98]⟩⟩,T ⟨⟨[97,98,99]⟩⟩,T ⟨⟨[100]⟩⟩,T ⟨⟨[101]⟩⟩,T ⟨⟨[102]⟩⟩,T ⟨⟨[102,105]⟩⟩]=some (txs W10):=sH (l:=W10);have hw:EY.wrap (1+(v:Int))=((1+v:Nat):Int):=by rw [aw (by omega) (by omega)];omega
 simp -implicitDefEqProofs only [bQ,Ff,hN,e1,be,aN,dn,hw,m10,tS'];refine cn (fun X=>∃s c',X=some (.ret [T s] [bB c'])∧Tx 8 s∧c'.ok (B+20)) (fun a:Cur × ByteArray=>[bB a.1,T a.2,I ((1+v:Nat):Int)])
  (fun a=>a.1.ok (B+2+2*a.2.size)∧Tx 8 a.2) (fun a=>8 - a.2.size) (fun o=>∃(s:ByteArray) (c':Cur),o = .ext 0 [bB c',T s]∧Tx 8 s∧c'.ok (B+20)) ?_ (c1,⟨⟨[]⟩⟩) ⟨k1.mono (by show B+2≤B+2+2*0;omega),by show 0≤8;omega,xV⟩ rfl ?_
 ·rintro⟨ca,s⟩ ⟨h1,h2,h3⟩
  simp only at h1 h2 h3;by_cases hn:s.size<1+v
  ·have hn':(s.size:Int)<((1+v:Nat):Int):=by omega
   obtain⟨t,c2,e2,ht,k2⟩:=yO ca W10 _ h1 (by omega) (by decide) (by decide);have hts:=As t ht;have ha:=vg (a:=s) (b:=t) (by omega);refine .inl ⟨(c2,s++t),?_,⟨k2.mono (by simp only [Fa];omega),by simp only [Fa];omega,rk h3 (DX t ht).ok⟩,by simp only [Fa];omega⟩
   simp -implicitDefEqProofs only [aN,bJ,cG,Ff,cW,hn',decide_true,dJ,if_true,bQ,hN,e2,be,ha]
  ·have hn':¬(s.size:Int)<((1+v:Nat):Int):=by omega
   refine .inr ⟨_,?_,rfl,s,ca,rfl,⟨h2,h3⟩,h1.mono (by omega)⟩
   simp -implicitDefEqProofs only [aN,bJ,cG,Ff,cW,hn',decide_false,dJ,FA,if_false]
 ·rintro o ⟨s,c',rfl,g1,g2⟩
  refine⟨s,c',?_,g1,g2⟩
  simp -implicitDefEqProofs only [iD,Nat.beq_refl,rQ,if_true,aN,bJ,bQ,Ff]
def W4:List ByteArray:=[⟨⟨[]⟩⟩,⟨⟨[65]⟩⟩,⟨⟨[97,32,98]⟩⟩,⟨⟨[97,45,98]⟩⟩]
theorem EC:∀s∈W4,Tx 20 s:=pf (by decide)
theorem Tx.mono {m n:Nat} {s:ByteArray} (h:Tx m s) (hm:m≤n):Tx n s:=⟨Nat.le_trans h.sz hm,h.ok⟩
theorem Tx.add {k n:Nat} {a b:ByteArray} (h:Tx k a) (h2:Tx n b):Tx (k+n) (a++b):=⟨by have:=h.sz;have:=h2.sz;simp only [Fa];omega,rk h.ok h2.ok⟩
theorem Tx.nil (n:Nat):Tx n ⟨⟨[]⟩⟩:=⟨by show 0≤n;omega,xV⟩
theorem yQ (c:Cur) (B:Nat) (h:c.ok B) (hB:B≤900000000):∃(s:ByteArray) (c':Cur),bA [bB c]=some (.ret [T s] [bB c'])∧Tx 20 s∧c'.ok (B+30):=by
 rw [md];obtain⟨k,c1,e1,l1,u1,k1⟩:=dE c 30 B h (by omega) (by omega);have m4:aA 1 [T ⟨⟨[]⟩⟩,T ⟨⟨[65]⟩⟩,T ⟨⟨[97,32,98]⟩⟩,T ⟨⟨[97,45,98]⟩⟩]=some (txs W4):=sH (l:=W4);obtain⟨s,c2,e2,h2,k2⟩:=BI c1 _ k1 (by omega);have h2s:=h2.sz;simp -implicitDefEqProofs only [bQ,Ff,hN,e1,be,aN,jg,m4,tS',dJ,decide_eq_true_eq];by_cases q0:k=0
 ·obtain⟨t,c3,e3,ht,k3⟩:=yO c1 W4 _ k1 (by omega) (by decide) (by decide)
  refine⟨t,c3,?_,EC t ht,k3.mono (by omega)⟩
  rw [if_pos q0];simp -implicitDefEqProofs only [e3,be,aN,bQ,Ff]
 rw [if_neg q0];by_cases q1:k=1
 ·rw [if_pos q1]
  obtain⟨v,c3,e3,l3,u3,k3⟩:=dE c1 2 _ k1 (by omega) (by omega);obtain⟨v,rfl⟩:=Fj l3;have hw:EY.wrap (16+(v:Int))=((16+v:Nat):Int):=by rw [aw (by omega) (by omega)];omega
  simp -implicitDefEqProofs only [e3,be,aN,dn,hw,Ff];refine cn (fun X=>∃s c',X=some (.ret [T s] [bB c'])∧Tx 20 s∧c'.ok (B+30)) (fun a:ByteArray=>[bB c3,T a,I ((16+v:Nat):Int)])
   (fun a=>Tx 20 a) (fun a=>20 - a.size) (fun o=>∃(s:ByteArray),o = .ext 1 [bB c3,T s]∧Tx 20 s) ?_ (⟨⟨[]⟩⟩) (Tx.nil 20) rfl ?_
  ·intro s h2
   have h2s:=h2.sz;by_cases hn:s.size<16+v
   ·have hn':(s.size:Int)<((16+v:Nat):Int):=by omega
    have hz:(⟨⟨[97]⟩⟩:ByteArray).size=1:=rfl;have ha:=vg (a:=s) (b:=⟨⟨[97]⟩⟩) (by omega);refine .inl ⟨s++⟨⟨[97]⟩⟩,?_,⟨by simp only [Fa];omega,rk h2.ok (yc [97] (by decide))⟩,by simp only [Fa];omega⟩
    simp -implicitDefEqProofs only [aN,bJ,cG,Ff,cW,hn',decide_true,dJ,if_true,ha]
   ·have hn':¬(s.size:Int)<((16+v:Nat):Int):=by omega
    refine .inr ⟨_,?_,rfl,s,rfl,h2⟩
    simp -implicitDefEqProofs only [aN,bJ,cG,Ff,cW,hn',decide_false,dJ,FA,if_false]
  ·rintro o ⟨s,rfl,g1⟩
   refine⟨s,c3,?_,g1,k3.mono (by omega)⟩
   simp -implicitDefEqProofs only [iD,Nat.beq_refl,rQ,if_true,aN,bJ,bQ,Ff]
 rw [if_neg q1];by_cases q2:k=2
 ·rw [if_pos q2]
  have hz:(⟨⟨[122]⟩⟩:ByteArray).size=1:=rfl;have ha:=vg (a:=s) (b:=⟨⟨[122]⟩⟩) (by omega);refine⟨s++⟨⟨[122]⟩⟩,c2,?_,⟨by simp only [Fa];omega,rk h2.ok (yc [122] (by decide))⟩,k2.mono (by omega)⟩
  simp -implicitDefEqProofs only [e2,be,aN,bQ,Ff,ha]
 ·rw [if_neg q2]
  refine⟨s,c2,?_,h2.mono (by omega),k2.mono (by omega)⟩
  simp -implicitDefEqProofs only [e2,be,aN,bQ,Ff]
set_option maxRecDepth 100000
def C12:List ByteArray:=[⟨⟨[97]⟩⟩,⟨⟨[97,98]⟩⟩,⟨⟨[97,98,99]⟩⟩,⟨⟨[98]⟩⟩,⟨⟨[98,98]⟩⟩,⟨⟨[99]⟩⟩,⟨⟨[100]⟩⟩,⟨⟨[101]⟩⟩,⟨⟨[102]⟩⟩,⟨⟨[102,102]⟩⟩,⟨⟨[102,105]⟩⟩,⟨⟨[105]⟩⟩]
theorem BB:∀s∈C12,1≤s.size∧s.size≤3:=by
 have:(C12.all fun s=>decide (1≤s.size)&&decide (s.size≤3))=true:=by decide
 intro s hs;have:=Fp.1 this s hs;simpa using this
structure Fd (f:List Srt):Prop where
 ln:f.length≤40
 sz:∀x∈f,x.1.size≤4
 lo:∀x∈f,-1≤x.2∧x.2≤100
theorem Fd.fin {f:List Srt} (h:Fd f):FIn f:=⟨by have:=h.ln;omega,fun x hx=>by have:=h.sz x hx;omega⟩
theorem m12:aA 1 [T ⟨⟨[97]⟩⟩,T ⟨⟨[97,98]⟩⟩,T ⟨⟨[97,98,99]⟩⟩,T ⟨⟨[98]⟩⟩,T ⟨⟨[98,98]⟩⟩,T ⟨⟨[99]⟩⟩,T ⟨⟨[100]⟩⟩,T ⟨⟨[101]⟩⟩,T ⟨⟨[102]⟩⟩,T ⟨⟨[102,102]⟩⟩,T ⟨⟨[102,105]⟩⟩,T ⟨⟨[105]⟩⟩]=some (txs C12):=sH (l:=C12)
theorem AU (c:Cur) (B:Nat) (h:c.ok B) (hB:B≤800000000):∃(f:List Srt) (c':Cur),cS [bB c]=some (.ret [srs f] [bB c'])∧(1≤f.length∧f.length≤12∧(∀x∈f,x.1.size≤3)∧∀x∈f,0≤x.2∧x.2≤100)∧c'.ok (B+100):=by
 rw [om];have hlen:(C12.map T).length=12:=rfl;simp -implicitDefEqProofs only [an,EU,EV,EW,tS',m12,dY,hlen];refine cn (fun X=>∃f c',X=some (.ret [srs f] [bB c'])∧(1≤f.length∧f.length≤12∧(∀x∈f,x.1.size≤3)∧∀x∈f,0≤x.2∧x.2≤100)∧c'.ok (B+100)) (fun a:Cur × List Srt × Nat=>[bB a.1,srs a.2.1,txs C12,I 12,I (a.2.2:Int)])
  (fun a=>a.1.ok (B+5*a.2.2)∧a.2.2≤12∧a.2.1.length≤a.2.2∧(∀x∈a.2.1,x.1.size≤3)∧∀x∈a.2.1,0≤x.2∧x.2≤100) (fun a=>12 - a.2.2)
  (fun o=>∃(f:List Srt) (c':Cur),o = .ext 0 [bB c',srs f]∧(f.length≤12∧(∀x∈f,x.1.size≤3)∧∀x∈f,0≤x.2∧x.2≤100)∧c'.ok (B+60)) ?_ (c,[],0) ⟨h.mono (by simp),by simp,by simp,by simp,by simp⟩ rfl ?_
 ·rintro⟨ca,f,i⟩ ⟨h1,h2,h3,h4,h5⟩
  simp only at h1 h2 h3 h4 h5;have hl12:C12.length=12:=rfl;by_cases hi:i<12
  ·have hi':(i:Int)<12:=by omega
   have hwi:EY.wrap ((i:Int)+1)=((i+1:Nat):Int):=by rw [aw (by omega) (by omega)];omega
   have hg:bF 1 (txs C12) (I (i:Int))=some [T (C12[i]'(by omega))]:=by simp [hl12,hi]
   have hz:=BB _ (EZ (by omega:i<C12.length));generalize C12[i]'(by omega)=t at hg hz;have take:∀(c2:Cur),c2.ok (B+5*i+2)→∃(v:Int) (c3:Cur),am [bB c2,I 4]=some (.ret [I v] [bB c3])∧EY.wrap (2+v)=2+v∧EY.wrap ((t.size:Int)*(2+v))=(t.size:Int)*(2+v)∧EY.wrap (4+(t.size:Int)*(2+v))=4+(t.size:Int)*(2+v)∧aA 2 [.agg [T t,I (4+(t.size:Int)*(2+v))]]=some (srs [(t,4+(t.size:Int)*(2+v))]) ∧
     eR 2 24 (srs f) (srs [(t,4+(t.size:Int)*(2+v))])=some (srs (f++[(t,4+(t.size:Int)*(2+v))]))∧(0≤4+(t.size:Int)*(2+v)∧4+(t.size:Int)*(2+v)≤100)∧c3.ok (B+5*(i+1)):=by
    intro c2 k2;obtain⟨v,c3,e3,l3,u3,k3⟩:=dE c2 4 _ k2 (by omega) (by omega);have hv:v≤3:=by omega
    have hm1:0≤(t.size:Int)*(2+v):=Int.mul_nonneg (by omega) (by omega);have hm2:(t.size:Int)*(2+v)≤3*5:=Int.mul_le_mul (by omega) (by omega) (by omega) (by omega);exact⟨v,c3,e3,aw (by omega) (by omega),aw (by omega) (by omega),aw (by omega) (by omega),nV _ _,ee (by simp only [Fg];omega),⟨by omega,by omega⟩,k3.mono (by omega)⟩
   have memo:∀(y:Srt),y.1.size≤3→(0≤y.2∧y.2≤100)→(∀x∈f++[y],x.1.size≤3)∧∀x∈f++[y],0≤x.2∧x.2≤100:=by
    intro y g1 g2;constructor<;>intro x hx<;>rcases Fk.1 hx with hx | hx
    ·exact h4 x hx
    ·rw [Fi.1 hx];exact g1
    ·exact h5 x hx
    ·rw [Fi.1 hx];exact g2
   by_cases h1':(t.size:Int)=1
   ·have h1g:¬(1:Int)<(t.size:Int):=by omega
    obtain⟨b,c2,e2,k2⟩:=xX ca 12 _ h1 (by omega) (by omega);cases b
    ·obtain⟨v,c3,e3,w1,w2,w3,o1,a1,r1,k3⟩:=take c2 k2
     obtain⟨q1,q2⟩:=memo (t,4+(t.size:Int)*(2+v)) hz.2 r1;rw [h1'] at w2 w3 o1 a1 r1 q1 q2;refine .inl ⟨(c3,f++[(t,4+1*(2+v))],i+1),?_,⟨k3,by simp only;omega,by simp;omega,q1,q2⟩,by simp only;omega⟩
     simp -implicitDefEqProofs only [an,EU,EV,EW,hi',hg,h1',e2,e3,w1,w2,w3,nC,o1,hD,a1,hwi]
    ·refine .inl ⟨(c2,f,i+1),?_,⟨k2.mono (by simp only;omega),by simp only;omega,by simp only;omega,h4,h5⟩,by simp only;omega⟩
     simp -implicitDefEqProofs only [an,EU,EV,EW,hi',hg,h1',e2,show ¬(1:Int)<1 by decide,hwi]
   ·have h1g:(1:Int)<(t.size:Int):=by omega
    obtain⟨b,c2,e2,k2⟩:=xX ca 3 _ h1 (by omega) (by omega);cases b
    ·refine .inl ⟨(c2,f,i+1),?_,⟨k2.mono (by simp only;omega),by simp only;omega,by simp only;omega,h4,h5⟩,by simp only;omega⟩
     simp -implicitDefEqProofs only [an,EU,EV,EW,hi',hg,h1',h1g,e2,hwi]
    ·obtain⟨v,c3,e3,w1,w2,w3,o1,a1,r1,k3⟩:=take c2 k2
     obtain⟨q1,q2⟩:=memo (t,4+(t.size:Int)*(2+v)) hz.2 r1;refine .inl ⟨(c3,f++[(t,4+(t.size:Int)*(2+v))],i+1),?_,⟨k3,by simp only;omega,by simp;omega,q1,q2⟩,by simp only;omega⟩
     simp -implicitDefEqProofs only [an,EU,EV,EW,hi',hg,h1',h1g,e2,e3,w1,w2,w3,nC,o1,hD,a1,hwi]
  ·have hi':¬(i:Int)<12:=by omega
   refine .inr ⟨_,?_,rfl,f,ca,rfl,⟨by omega,h4,h5⟩,h1.mono (by omega)⟩
   simp -implicitDefEqProofs only [an,EU,EV,EW,hi']
 ·rintro o ⟨f,c',rfl,⟨g1,g2,g3⟩,g4⟩
  have hm1:aA 2 [.agg [T ⟨⟨[97]⟩⟩,I 9]]=some (srs [(⟨⟨[97]⟩⟩,9)]):=nV _ _;by_cases h0:(f.length:Int)=0
  ·refine⟨[(⟨⟨[97]⟩⟩,9)],c',?_,⟨by simp,by simp,?_,?_⟩,g4.mono (by omega)⟩
   ·simp -implicitDefEqProofs only [an,EU,EV,EW,h0,nC,hm1]
   ·intro x hx
    rw [Fi.1 hx];decide
   ·intro x hx
    rw [Fi.1 hx];decide
  ·refine⟨f,c',?_,⟨by omega,g1,g2,g3⟩,g4.mono (by omega)⟩
   simp -implicitDefEqProofs only [an,EU,EV,EW,h0]
def A5':List ByteArray:=[⟨⟨[]⟩⟩,⟨⟨[65]⟩⟩,⟨⟨[97,98,99,100]⟩⟩,⟨⟨[97]⟩⟩,⟨⟨[122,122,122]⟩⟩]
theorem DE:∀s∈A5',Tx 4 s:=pf (by decide)
theorem Cs {f:List Srt} {k:Nat} (h:k<f.length):qf 2 (srs f) (I (k:Int))=some (.ref k 0):=by
 rw [wj,if_pos (by simpa using h)]
theorem BW {f:List Srt} {k:Nat} (h:k<f.length) (t:ByteArray):stD 1 (srs f) (.ref k 0) (T t)=some (srs (f.set k (t,f[k].2))):=by
 rw [wn (c:=[T f[k].1,I f[k].2]) (by simp [h]) (by simp)];show some (D.arr 2 ((f.map sr).set k (sr (t,f[k].2))))=_
 rw [←FT]
theorem DG {f:List Srt} {k:Nat} (h:k<f.length) (n:Int):stD 1 (srs f) (.ref k 1) (I n)=some (srs (f.set k (f[k].1,n))):=by
 rw [wn (c:=[T f[k].1,I f[k].2]) (by simp [h]) (by simp)];show some (D.arr 2 ((f.map sr).set k (sr (f[k].1,n))))=_
 rw [←FT]
def two (n:Nat):ByteArray:=⟨⟨[Fr (97+n / 6),Fr (97+n % 6)]⟩⟩
theorem DL (a b:UInt8):eK [U (a.toNat:Int),U (b.toNat:Int)]=some [a,b]:=by simp [eK]
theorem Dc (n:Nat) (h:n<40):bin .quo false [] (I (n:Int)) (I 6)=some (I ((n / 6:Nat):Int))∧bin .add false [] (I 97) (I ((n / 6:Nat):Int))=some (I ((97+n / 6:Nat):Int))∧ex (some .u8) false (I ((97+n / 6:Nat):Int))=some (U ((97+n / 6:Nat):Int)) ∧
  bin .rem false [] (I (n:Int)) (I 6)=some (I ((n % 6:Nat):Int))∧bin .add false [] (I 97) (I ((n % 6:Nat):Int))=some (I ((97+n % 6:Nat):Int))∧ex (some .u8) false (I ((97+n % 6:Nat):Int))=some (U ((97+n % 6:Nat):Int)) ∧
  aA 1 [U ((97+n / 6:Nat):Int),U ((97+n % 6:Nat):Int)]=some (.arr 1 [U ((97+n / 6:Nat):Int),U ((97+n % 6:Nat):Int)])∧lp (.arr 1 [U ((97+n / 6:Nat):Int),U ((97+n % 6:Nat):Int)])=some (T (two n)):=by
 have hm:n % 6<6:=Nat.mod_lt _ (by decide);have hq:n / 6≤6:=by omega
 have w1:EY.wrap (97+((n % 6:Nat):Int))=((97+n % 6:Nat):Int):=by rw [aw (by omega) (by omega)];omega
 have w2:EY.wrap (97+((n / 6:Nat):Int))=((97+n / 6:Nat):Int):=by rw [aw (by omega) (by omega)];omega
 have w3:EY.wrap ((n / 6:Nat):Int)=((n / 6:Nat):Int):=aw (by omega) (by omega);refine⟨?_,by rw [dn,w2],?_,?_,by rw [dn,w1],?_,?_,?_⟩
 ·rw [vh,if_neg (by decide),Int.tdiv_eq_ediv_of_nonneg (by omega)]
  rw [show((n:Int) / 6)=((n / 6:Nat):Int) from rfl,w3]
 ·show some (U (FH.wrap _))=_
  congr 3
  simp only [IntKind.wrap_u8];omega
 ·rw [xO,if_neg (by decide),Int.tmod_eq_emod_of_nonneg (by omega)]
  rfl
 ·show some (U (FH.wrap _))=_
  congr 3
  simp only [IntKind.wrap_u8];omega
 ·simp [aA,fv]
 ·have t1:(Fr (97+n / 6)).toNat=97+n / 6:=by
   rw [UInt8.toNat_ofNat'];omega
  have t2:(Fr (97+n % 6)).toNat=97+n % 6:=by
   rw [UInt8.toNat_ofNat'];omega
  have hb:=DL (Fr (97+n / 6)) (Fr (97+n % 6));rw [t1,t2] at hb;simp only [lp,hb,Option.map_some];rfl
theorem mq {α:Type} {l:List α} {k:Nat} {x y:α} (h:x∈l.set k y):x∈l∨x=y:=List.mem_or_eq_of_mem_set h
theorem mF (c:Cur) (B:Nat) (h:c.ok B) (hB:B≤700000000):∃(f:List Srt) (c':Cur),bn [bB c]=some (.ret [srs f] [bB c'])∧Fd f∧c'.ok (B+200):=by
 rw [lU];obtain⟨f,c1,e1,⟨f1,f2,f3,f4⟩,k1⟩:=AU c B h (by omega);obtain⟨k,c2,e2,l2,u2,k2⟩:=dE c1 (f.length:Int) _ k1 (by omega) (by omega);obtain⟨k,rfl⟩:=Fj l2;have hk:k<f.length:=by omega
 obtain⟨q,c3,e3,l3,u3,k3⟩:=dE c2 30 _ k2 (by omega) (by omega);have m5:aA 1 [T ⟨⟨[]⟩⟩,T ⟨⟨[65]⟩⟩,T ⟨⟨[97,98,99,100]⟩⟩,T ⟨⟨[97]⟩⟩,T ⟨⟨[122,122,122]⟩⟩]=some (txs A5'):=sH (l:=A5');have mi:aA 1 [I 0,I 1,I 54,I 55,I (-1)]=some (xW [0,1,54,55,-1]):=BC (l:=[0,1,54,55,-1]);have hr:=Cs hk;have hfd:Fd f:=⟨by omega,fun x hx=>by have:=f3 x hx;omega,fun x hx=>by have:=f4 x hx;omega⟩
 simp -implicitDefEqProofs only [an,EU,EV,EW,e1,e2,e3,tS',m5,mi,dY,decide_eq_true_eq];by_cases q0:q=0
 ·obtain⟨t,c4,e4,ht,k4⟩:=yO c3 A5' _ k3 (by omega) (by decide) (by decide)
  have htz:=(DE t ht).sz;have hst:=BW hk t;refine⟨f.set k (t,f[k].2),c4,?_,⟨by rw [FE];omega,fun x hx=>?_,fun x hx=>?_⟩,k4.mono (by omega)⟩
  ·rw [if_pos q0]
   simp -implicitDefEqProofs only [an,EU,EV,EW,e4,hr,tc,hst]
  ·rcases mq hx with hx | rfl
   ·exact hfd.sz x hx
   ·exact htz
  ·rcases mq hx with hx | rfl
   ·exact hfd.lo x hx
   ·have:=hfd.lo _ (EZ hk)
    exact this
 rw [if_neg q0];by_cases q1:q=1
 ·obtain⟨n,c4,e4,hn,k4⟩:=xZ c3 [0,1,54,55,-1] _ k3 (by omega) (by simp) (by simp)
  have hst:=DG hk n;refine⟨f.set k (f[k].1,n),c4,?_,⟨by rw [FE];omega,fun x hx=>?_,fun x hx=>?_⟩,k4.mono (by omega)⟩
  ·rw [if_pos q1]
   simp -implicitDefEqProofs only [an,EU,EV,EW,e4,hr,tc,Fw,hst]
  ·rcases mq hx with hx | rfl
   ·exact hfd.sz x hx
   ·have:=hfd.sz _ (EZ hk)
    exact this
  ·rcases mq hx with hx | rfl
   ·exact hfd.lo x hx
   ·simp only [FG,FW,or_false] at hn
    show -1≤n∧n≤100
    omega
 rw [if_neg q1];by_cases q2:q=2
 ·refine⟨[],c3,?_,⟨by simp,by simp,by simp⟩,k3.mono (by omega)⟩
  rw [if_pos q2]
 rw [if_neg q2];by_cases q3:q=3
 ·rw [if_pos q3]
  obtain⟨v,c4,e4,l4,u4,k4⟩:=dE c3 2 _ k3 (by omega) (by omega);obtain⟨v,rfl⟩:=Fj l4;have hw:EY.wrap (32+(v:Int))=((32+v:Nat):Int):=by rw [aw (by omega) (by omega)];omega
  simp -implicitDefEqProofs only [an,EU,EV,EW,e4,hw];refine cn (fun X=>∃f c',X=some (.ret [srs f] [bB c'])∧Fd f∧c'.ok (B+200)) (fun a:List Srt=>[bB c4,srs a,I ((32+v:Nat):Int)])
   (fun a=>a.length≤32+v∧Fd a) (fun a=>40 - a.length) (fun o=>∃(f:List Srt),o = .ext 1 [bB c4,srs f]∧Fd f) ?_ [] ⟨by simp,⟨by simp,by simp,by simp⟩⟩ rfl ?_
  ·rintro a ⟨g1,g2⟩
   by_cases hn:a.length<32+v
   ·have hn':(a.length:Int)<((32+v:Nat):Int):=by omega
    obtain⟨r1,r2,r3,r4,r5,r6,r7,r8⟩:=Dc a.length (by omega);have ho:aA 2 [.agg [T (two a.length),I 9]]=some (srs [(two a.length,9)]):=nV _ _;have ha:=ee (l:=a) (m:=[(two a.length,9)]) (by simp only [Fg];omega);refine .inl ⟨a++[(two a.length,9)],?_,⟨by simp;omega,⟨by simp;omega,fun x hx=>?_,fun x hx=>?_⟩⟩,by simp;omega⟩
    ·simp -implicitDefEqProofs only [an,EU,EV,EW,hn',r1,r2,r3,r4,r5,r6,r7,r8,nC,ho,hD,ha]
    ·rcases Fk.1 hx with hx | hx
     ·exact g2.sz x hx
     ·rw [Fi.1 hx]
      show 2≤4
      omega
    ·rcases Fk.1 hx with hx | hx
     ·exact g2.lo x hx
     ·rw [Fi.1 hx]
      show(-1:Int)≤9∧(9:Int)≤100
      omega
   ·have hn':¬(a.length:Int)<((32+v:Nat):Int):=by omega
    refine .inr ⟨_,?_,rfl,a,rfl,g2⟩
    simp -implicitDefEqProofs only [an,EU,EV,EW,hn']
  ·rintro o ⟨a,rfl,g⟩
   refine⟨a,c4,?_,g,k4.mono (by omega)⟩
   simp -implicitDefEqProofs only [an,EU,EV,EW]
 ·rw [if_neg q3]
  exact⟨f,c3,rfl,hfd,k3.mono (by omega)⟩
theorem Bp {l:List ByteArray} {k:Nat} (h:k<l.length) (t:ByteArray):stD 1 (txs l) (.ref k 0) (T t)=some (txs (l.set k t)):=by
 rw [Bd (w:=.string l[k]) (by simp [h])];simp [txs,FT]
theorem xY {l:List ByteArray} {k:Nat} (h:k<l.length):qf 1 (txs l) (I (k:Int))=some (.ref k 0):=by
 rw [wj,if_pos (by simpa using h)]
theorem BN (s:ByteArray):aA 1 [T s]=some (txs [s]):=by simp [aA,fv]
theorem ye (l:List ByteArray):fg (txs l)=some (txs l):=oE fun _=>rfl
theorem CF {l m:List ByteArray} (h:l.length+m.length≤1048577):eR 1 16 (txs l) (txs m)=some (txs (l++m)):=by
 rw [oS,if_pos (by simp only [FD];omega)];show _=some (D.arr 1 ((l++m).map T))
 rw [FX]
theorem Ei:D.arr 1 []=txs []:=rfl
theorem xN {body:List D→Option Out} {K:Out→Option Out} (B n:Nat) (hn:n≤50) (c0:Cur) (h0:c0.ok B) (Q:Option Out→Prop)
  (hs:∀(c:Cur) (l:List ByteArray),c.ok (B+30*l.length)→l.length<n→∃s c',body [bB c,txs l,I (n:Int)]=some (.nrm [bB c',txs (l++[s]),I (n:Int)])∧s.size≤20∧c'.ok (B+30*(l.length+1)))
  (he:∀(c:Cur) (l:List ByteArray),¬l.length<n→body [bB c,txs l,I (n:Int)]=some (.ext 0 [bB c,txs l,I (n:Int)]))
  (hK:∀(c:Cur) (l:List ByteArray),l.length=n→(∀s∈l,s.size≤20)→c.ok (B+1500)→Q (K (.ext 0 [bB c,txs l,I (n:Int)]))):Q ((aS body [bB c0,txs [],I (n:Int)]).bind K):=by
 refine cn Q (fun a:Cur × List ByteArray=>[bB a.1,txs a.2,I (n:Int)]) (fun a=>a.1.ok (B+30*a.2.length)∧a.2.length≤n∧∀s∈a.2,s.size≤20) (fun a=>n - a.2.length)
  (fun o=>∃(c:Cur) (l:List ByteArray),o = .ext 0 [bB c,txs l,I (n:Int)]∧l.length=n∧(∀s∈l,s.size≤20)∧c.ok (B+1500)) ?_ (c0,[]) ⟨h0.mono (by simp),by simp,by simp⟩ rfl ?_
 ·rintro⟨c,l⟩ ⟨h1,h2,h3⟩
  simp only at h1 h2 h3;by_cases hlt:l.length<n
  ·obtain⟨s,c',e,k1,k2⟩:=hs c l h1 hlt
   refine .inl ⟨(c',l++[s]),e,⟨by simpa using k2,by simp;omega,fun x hx=>?_⟩,by simp;omega⟩
   rcases Fk.1 hx with hx | hx
   ·exact h3 x hx
   ·rw [Fi.1 hx];exact k1
  ·exact .inr ⟨_,he c l hlt,rfl,c,l,rfl,by omega,h3,h1.mono (by omega)⟩
 ·rintro o ⟨c,l,rfl,g1,g2,g3⟩
  exact hK c l g1 g2 g3
theorem Ct (c:Cur) (B:Nat) (h:c.ok B) (hB:B≤700000000):∃(l:List ByteArray) (c':Cur),dF [bB c]=some (.ret [txs l] [bB c'])∧WIn l∧c'.ok (B+2000):=by
 rw [nM];obtain⟨v,c1,e1,l1,u1,k1⟩:=dE c 6 B h (by omega) (by omega);obtain⟨v,rfl⟩:=Fj l1;obtain⟨b,c2,e2,k2⟩:=xX c1 16 _ k1 (by omega) (by omega);have step:∀(B':Nat) (c:Cur) (l:List ByteArray),B'≤800000000→c.ok B'→l.length≤60→∃s c',bg [bB c]=some (.ret [T s] [bB c'])∧s.size≤20∧c'.ok (B'+20)∧aA 1 [T s]=some (txs [s])∧eR 1 16 (txs l) (txs [s])=some (txs (l++[s])):=by
  intro B' c l h1 h2 h3;obtain⟨s,c',e,hs,hc⟩:=BI c B' h2 (by omega);exact⟨s,c',e,by have:=hs.sz;omega,hc,BN s,CF (by simp only [Fg];omega)⟩
 have fin:∀(c:Cur) (l:List ByteArray) (n:Nat),l.length=n→0<n→n≤60→c.ok (B+1600)→∃(b:Bool) (c3:Cur) (k:Nat) (c4:Cur) (w:ByteArray) (c5:Cur),bq [bB c,I 16]=some (.ret [.v (.bool b)] [bB c3])∧c3.ok (B+1700)∧am [bB c3,I (n:Int)]=some (.ret [I (k:Int)] [bB c4])∧k<n∧bA [bB c4]=some (.ret [T w] [bB c5])∧w.size≤20∧c5.ok (B+1900):=by
  intro c l n h1 h2 h3 h4;obtain⟨b,c3,e3,k3⟩:=xX c 16 _ h4 (by omega) (by omega);obtain⟨k,c4,e4,l4,u4,k4⟩:=dE c3 (n:Int) _ k3 (by omega) (by omega);obtain⟨k,rfl⟩:=Fj l4;obtain⟨w,c5,e5,h5,k5⟩:=yQ c4 _ k4 (by omega);exact⟨b,c3,k,c4,w,c5,e3,k3.mono (by omega),e4,by omega,e5,h5.sz,k5.mono (by omega)⟩
 simp -implicitDefEqProofs only [an,EU,EV,EW,e1,e2,Ei];cases b
 ·simp -implicitDefEqProofs only [an,EU,EV,EW]
  refine xN (B+10) v (by omega) c2 (k2.mono (by omega)) (fun X=>∃(l:List ByteArray) (c':Cur),X=some (.ret [txs l] [bB c'])∧WIn l∧c'.ok (B+2000)) (fun c l h1 hlt=>?_) (fun c l hlt=>?_) (fun c l h1 h2 h3=>?_)
  ·obtain⟨s,c',g1,g2,g3,g4,g5⟩:=step _ c l (by omega) h1 (by omega)
   have hlt':(l.length:Int)<(v:Int):=by omega
   refine⟨s,c',?_,g2,g3.mono (by omega)⟩
   simp -implicitDefEqProofs only [an,EU,EV,EW,hlt',g1,g4,ye,g5]
  ·have hlt':¬(l.length:Int)<(v:Int):=by omega
   simp -implicitDefEqProofs only [an,EU,EV,EW,hlt']
  ·have hwi:WIn l:=⟨by omega,fun s hs=>by have:=h2 s hs;omega⟩
   by_cases hv:0<v
   ·have hv':(0:Int)<(v:Int):=by omega
    obtain⟨b,c3,k,c4,w,c5,g1,g2,g3,g4,g5,g6,g7⟩:=fin c l v h1 hv (by omega) (h3.mono (by omega));cases b
    ·refine⟨l,c3,?_,hwi,g2.mono (by omega)⟩
     simp -implicitDefEqProofs only [an,EU,EV,EW,hv',g1]
    ·have hr:=xY (l:=l) (k:=k) (by omega)
     have hst:=Bp (l:=l) (k:=k) (by omega) w;refine⟨l.set k w,c5,?_,⟨by rw [FE];omega,fun s hs=>?_⟩,g7.mono (by omega)⟩
     ·simp -implicitDefEqProofs only [an,EU,EV,EW,hv',g1,g3,g5,hr,hst]
     ·rcases mq hs with hs | rfl
      ·exact hwi.sz s hs
      ·omega
   ·have hv':¬(0:Int)<(v:Int):=by omega
    refine⟨l,c,?_,hwi,h3.mono (by omega)⟩
    simp -implicitDefEqProofs only [an,EU,EV,EW,hv']
 ·obtain⟨x,c3,e3,l3,u3,k3⟩:=dE c2 2 _ k2 (by omega) (by omega)
  obtain⟨x,rfl⟩:=Fj l3;have hx:x<2:=by omega
  have hw:EY.wrap (40+(x:Int))=((40+x:Nat):Int):=by rw [aw (by omega) (by omega)];omega
  simp -implicitDefEqProofs only [an,EU,EV,EW,e3,hw];refine xN (B+10) (40+x) (by omega) c3 (k3.mono (by omega)) (fun X=>∃(l:List ByteArray) (c':Cur),X=some (.ret [txs l] [bB c'])∧WIn l∧c'.ok (B+2000)) (fun c l h1 hlt=>?_) (fun c l hlt=>?_) (fun c l h1 h2 h3=>?_)
  ·obtain⟨s,c',g1,g2,g3,g4,g5⟩:=step _ c l (by omega) h1 (by omega)
   have hlt':(l.length:Int)<((40+x:Nat):Int):=by omega
   refine⟨s,c',?_,g2,g3.mono (by omega)⟩
   simp -implicitDefEqProofs only [an,EU,EV,EW,hlt',g1,g4,ye,g5]
  ·have hlt':¬(l.length:Int)<((40+x:Nat):Int):=by omega
   simp -implicitDefEqProofs only [an,EU,EV,EW,hlt']
  ·have hwi:WIn l:=⟨by omega,fun s hs=>by have:=h2 s hs;omega⟩
   have hv':(0:Int)<((40+x:Nat):Int):=by omega
   obtain⟨b,c3,k,c4,w,c5,g1,g2,g3,g4,g5,g6,g7⟩:=fin c l (40+x) h1 (by omega) (by omega) (h3.mono (by omega));cases b
   ·refine⟨l,c3,?_,hwi,g2.mono (by omega)⟩
    simp -implicitDefEqProofs only [an,EU,EV,EW,hv',g1]
   ·have hr:=xY (l:=l) (k:=k) (by omega)
    have hst:=Bp (l:=l) (k:=k) (by omega) w;refine⟨l.set k w,c5,?_,⟨by rw [FE];omega,fun s hs=>?_⟩,g7.mono (by omega)⟩
    ·simp -implicitDefEqProofs only [an,EU,EV,EW,hv',g1,g3,g5,hr,hst]
    ·rcases mq hs with hs | rfl
     ·exact hwi.sz s hs
     ·omega
set_option maxRecDepth 100000
theorem AA (l:List Int):kv 3 (D.agg [eV l,I 0,D.v (.int .u64 0)])=some (bB ⟨l,0,0⟩):=by simp [D.cells,D.single]
def S6:List ByteArray:=[⟨⟨[97,97]⟩⟩,⟨⟨[99]⟩⟩,⟨⟨[102,108]⟩⟩,⟨⟨[122,122,122]⟩⟩,⟨⟨[97,98,99,100]⟩⟩,⟨⟨[98]⟩⟩]
theorem Er:∀s∈S6,Tx 4 s:=pf (by decide)
def S6':List ByteArray:=[⟨⟨[97]⟩⟩,⟨⟨[97,98]⟩⟩,⟨⟨[102]⟩⟩,⟨⟨[102,102]⟩⟩,⟨⟨[122,122]⟩⟩,⟨⟨[]⟩⟩]
def S9:List ByteArray:=[⟨⟨[]⟩⟩,⟨⟨[59]⟩⟩,⟨⟨[97,57,59]⟩⟩,⟨⟨[97,48,57,59]⟩⟩,⟨⟨[98,57,59,97,57,59]⟩⟩,⟨⟨[97,57]⟩⟩,⟨⟨[57,59]⟩⟩,⟨⟨[97,98,99,100,57,59]⟩⟩,⟨⟨[102,54,59,102,105,49,48,59,105,53,59,110,49,48,59]⟩⟩]
theorem EA:∀s∈S9,Tx 20 s:=pf (by decide)
theorem sZ (l:List Int) (h:Bytes l):∃(f:List Srt) (s:Srt),dp [eV l]=some (.ret [srs f,sr s] [])∧Fd f∧s.1.size≤4:=by
 obtain⟨f,c1,e1,hf,k1⟩:=mF ⟨l,0,0⟩ 0 (Bt h) (by omega);obtain⟨t,c2,e2,ht,k2⟩:=yO c1 S6 _ k1 (by omega) (by decide) (by decide);obtain⟨n,c3,e3,hn,k3⟩:=xZ c2 [1,9,54,55,0,12] _ k2 (by omega) (by simp) (by simp);refine⟨f,(t,n),?_,hf,(Er t ht).sz⟩
 rw [mH];have m6:aA 1 [T ⟨⟨[97,97]⟩⟩,T ⟨⟨[99]⟩⟩,T ⟨⟨[102,108]⟩⟩,T ⟨⟨[122,122,122]⟩⟩,T ⟨⟨[97,98,99,100]⟩⟩,T ⟨⟨[98]⟩⟩]=some (txs S6):=sH (l:=S6);have mi:aA 1 [I 1,I 9,I 54,I 55,I 0,I 12]=some (xW [1,9,54,55,0,12]):=BC (l:=[1,9,54,55,0,12]);simp -implicitDefEqProofs only [an,EU,EV,EW,rH,AA,e1,tS',m6,e2,mi,e3,nC,iC,eu]
theorem lL (l:List Int) (h:Bytes l):∃(f:List Srt) (ws:List ByteArray),bM [eV l]=some (.ret [srs f,txs ws] [])∧Fd f∧WIn ws:=by
 obtain⟨f,c1,e1,hf,k1⟩:=mF ⟨l,0,0⟩ 0 (Bt h) (by omega);obtain⟨ws,c2,e2,hw,k2⟩:=Ct c1 _ k1 (by omega);refine⟨f,ws,?_,hf,hw⟩
 rw [iN];simp -implicitDefEqProofs only [an,EU,EV,EW,rH,AA,e1,e2]
theorem rg (l:List Int) (h:Bytes l):∃(f:List Srt) (t:ByteArray),cU [eV l]=some (.ret [srs f,T t] [])∧Fd f:=by
 obtain⟨f,c1,e1,hf,k1⟩:=mF ⟨l,0,0⟩ 0 (Bt h) (by omega);obtain⟨t,c2,e2,ht,k2⟩:=yO c1 S6' _ k1 (by omega) (by decide) (by decide);refine⟨f,t,?_,hf⟩
 rw [lJ];have m6:aA 1 [T ⟨⟨[97]⟩⟩,T ⟨⟨[97,98]⟩⟩,T ⟨⟨[102]⟩⟩,T ⟨⟨[102,102]⟩⟩,T ⟨⟨[122,122]⟩⟩,T ⟨⟨[]⟩⟩]=some (txs S6'):=sH (l:=S6');simp -implicitDefEqProofs only [an,EU,EV,EW,rH,AA,e1,tS',m6,e2]
theorem pi (l:List Int) (h:Bytes l):∃(f:List Srt) (t:ByteArray),cq [eV l]=some (.ret [srs f,T t] [])∧Fd f:=by
 obtain⟨f,t,e,hf⟩:=rg l h;refine⟨f,t,?_,hf⟩
 rw [kq];simp -implicitDefEqProofs only [an,EU,EV,EW,e,ta0,tc0,tv1]
theorem qR (l:List Int) (h:Bytes l):∃(s:ByteArray),cP [eV l]=some (.ret [T s] [])∧s.size≤900000:=by
 obtain⟨f,c1,e1,⟨f1,f2,f3,f4⟩,k1⟩:=AU ⟨l,0,0⟩ 0 (Bt h) (by omega);have hT:TIn f:=⟨by omega,fun x hx=>by have:=f3 x hx;omega,fun x hx=>by have:=f4 x hx;omega⟩
 have ht:=jq f hT;have hz:(eo f).size≤12*200:=by
  have key:∀(l:List Srt) (a:ByteArray),(∀x∈l,(onT x).size≤200)→(l.foldl (fun a x=>a++onT x) a).size≤a.size+200*l.length:=by
   intro l;induction l with
   | nil=>intro a _;simp
   | cons x l ih =>
    intro a hx;have h1:=ih (a++onT x) fun y hy=>hx y (by simp [hy])
    have h2:=hx x (by simp);rw [Fo,Ft];simp only [Fa] at h1;omega
  have:=key f ⟨#[]⟩ fun x hx=>mc (hT.sz x hx) (hT.lo x hx)
  have z:(⟨#[]⟩:ByteArray).size=0:=rfl;unfold eo;omega
 obtain⟨q,c2,e2,l2,u2,k2⟩:=dE c1 4 _ k1 (by omega) (by omega);rw [mb];have m9:aA 1 [T ⟨⟨[]⟩⟩,T ⟨⟨[59]⟩⟩,T ⟨⟨[97,57,59]⟩⟩,T ⟨⟨[97,48,57,59]⟩⟩,T ⟨⟨[98,57,59,97,57,59]⟩⟩,T ⟨⟨[97,57]⟩⟩,T ⟨⟨[57,59]⟩⟩,T ⟨⟨[97,98,99,100,57,59]⟩⟩,T ⟨⟨[102,54,59,102,105,49,48,59,105,53,59,110,49,48,59]⟩⟩]=some (txs S9):=sH (l:=S9);simp -implicitDefEqProofs only [an,EU,EV,EW,rH,AA,e1,ht,e2,tS',m9,decide_eq_true_eq];by_cases q0:q=0
 ·obtain⟨t,c3,e3,h3,k3⟩:=AO c2 (eo f) ⟨⟨[97,98,122,59,48,49,53,57]⟩⟩ _ k2 (by omega) (by omega) (by decide)
  refine⟨t,?_,by omega⟩
  rw [if_pos q0];simp -implicitDefEqProofs only [an,EU,EV,EW,e3]
 rw [if_neg q0];by_cases q1:q=1
 ·obtain⟨t,c3,e3,h3,k3⟩:=yO c2 S9 _ k2 (by omega) (by decide) (by decide)
  refine⟨t,?_,by have:=(EA t h3).sz;omega⟩
  rw [if_pos q1];simp -implicitDefEqProofs only [an,EU,EV,EW,e3]
 ·rw [if_neg q1]
  exact⟨eo f,rfl,by omega⟩
theorem vf (l:List Int) (h:Bytes l):∃(x:Srt),dZ [eV l]=some (.ret [sr x] [])∧x.1.size≤4:=by
 obtain⟨f,c1,e1,hf,k1⟩:=mF ⟨l,0,0⟩ 0 (Bt h) (by omega);have hl:=hf.ln;rw [ot];have hb:iQ [] [T ⟨⟨[]⟩⟩,I 0] []=some (.agg [T ⟨⟨[]⟩⟩,I 0]):=by simp [iQ,qB]
 simp -implicitDefEqProofs only [an,EU,EV,EW,rH,AA,e1,decide_eq_true_eq,tS'];by_cases h0:(f.length:Int)=0
 ·refine⟨(⟨⟨[]⟩⟩,0),?_,by show 0≤4;omega⟩
  rw [if_pos h0];simp -implicitDefEqProofs only [an,EU,EV,EW,hb,iC,eu]
 ·rw [if_neg h0]
  obtain⟨k,c2,e2,l2,u2,k2⟩:=dE c1 (f.length:Int) _ k1 (by omega) (by omega);obtain⟨k,rfl⟩:=Fj l2;have hk:k<f.length:=by omega
  have hg:=fh hk;refine⟨f[k],?_,hf.sz _ (EZ hk)⟩
  simp -implicitDefEqProofs only [an,EU,EV,EW,e2,hg,kM,gK,iC,eu]
theorem DU (a:ByteArray) (b:Int):bin .neq false [3,1] (.agg [T a,I b]) (.agg [T a,I b])=some (B false):=by simp [bin,mY]
theorem eG (f:List Srt) (h:f.length≤1000000):cy [srs f,srs f]=some (.ret [B true] []):=by
 rw [tX];simp -implicitDefEqProofs only [an,EU,EV,EW];refine aX (.ext 0 []) (oO f.length (fun i=>[srs f,srs f,I f.length,I i]) _ (fun i hi=>?_) ?_ rfl rfl) ?_
 ·have hi':(i:Int)<(f.length:Int):=by omega
  have hw:EY.wrap ((i:Int)+1)=((i+1:Nat):Int):=by rw [aw (by omega) (by omega)];omega
  have hg:=fh hi;simp -implicitDefEqProofs only [an,EU,EV,EW,hi',hg,kM,gK,DU,hw]
 ·have hlt:¬((f.length:Int)<(f.length:Int)):=by omega
  simp -implicitDefEqProofs only [an,EU,EV,EW,hlt]
 ·simp -implicitDefEqProofs only [an,EU,EV,EW]
theorem Ax (s:ByteArray):itD (T s)=some (.itr s 0):=rfl
theorem xT {s:ByteArray} {i:Nat} (h:i<(ac s).length) (ha:(ac s)[i].toNat<128):nxS (.itr s i)=some (.itr s (i+1))∧nxT (.itr s i) = .tup [B true,I i,.v (.int .i32 (ac s)[i].toNat)]:=by
 have e:s.data.toList[i]?=some (ac s)[i]:=FI h;constructor
 ·simp only [nxS,e,ha,if_true]
 ·simp only [nxT,e]
theorem Ay {s:ByteArray}:nxS (.itr s (ac s).length)=some (.itr s (ac s).length)∧nxT (.itr s (ac s).length) = .tup [B false]:=by
 have e:s.data.toList[(ac s).length]?=none:=List.getElem?_eq_none (FJ _);constructor
 ·simp only [nxS,e]
 ·simp only [nxT,e]
theorem BV (k:Nat) (h:k<26):(gy k).toNat<128:=by
 have key:∀k:Fin 26,(gy k.val).toNat<128:=by decide +kernel
 exact key ⟨k,h⟩
theorem BO {f:List Srt} (c:ByteArray) (h:f.length≤1000):(woR f c).length≤1000000:=by
 unfold woR;split
 ·cases fnd f c with
  | none=>simp
  | some j=>simp only [Fh,Fu,Fe,Fs];omega
 ·simp
set_option maxRecDepth 100000
open Classical in
theorem Cq (u:ByteArray):(pfR u).length≤1000000:=by
 by_cases hp:pfB u=true
 ·have:=(gp.1 (vJ hp).1).2.2.2
  omega
 ·unfold pfB at hp
  rw [decide_eq_true_eq] at hp;unfold pfR;rw [dif_neg hp];simp
theorem Ci {g:List Srt} {ws:List ByteArray} {b:UInt8} (h:b∈ac (mlR g ws)):mlB g ws=true∧∃k,k<26∧b=gy k∧mlP g ws k=true:=by
 unfold mlR at h;cases hb:mlB g ws
 ·rw [hb] at h
  cases h
 ·rw [hb,if_pos rfl] at h
  exact⟨rfl,uM g ws 26 b h⟩
theorem BS {ws:List ByteArray} (h:uW ws=true) {w:ByteArray} (hw:w∈ws):∀b∈ac w,b.toNat<128:=by
 intro b hb;unfold uW at h;rw [Fb] at h;have:=Fp.1 h.1 w hw;unfold ce at this;rw [Fb,lB] at this;have:=Fp.1 this.1 b hb;have:=(xi b).1 this;omega
theorem tW (code more:List Int) (h1:∀n∈code,0≤n∧n≤255) (h2:∀n∈more,0≤n∧n≤255) (l1:code.length≤9223372036854775807) (l2:more.length≤9223372036854775807):dD [eV code,eV more]=some (.ret [B true] []):=by
 rw [nQ];have e0:D.v (Fl {data:={toList:=[]}})=T ⟨#[]⟩:=rfl;by_cases hbig:1048576<EY.wrap ((code.length:Int)+(more.length:Int))
 ·simp -implicitDefEqProofs only [an,EU,EV,EW,hbig]
 obtain⟨f,s,d1,hf,hs⟩:=sZ code ⟨h1,l1⟩;have hfi:=hf.fin;have hfl:=hf.ln;have a1:=qL f s hfi (by omega);have a2:=qT f s hfi (by omega);have a3:=qW f hfi;have a4:=qF f hfi;have a5:=cz f hfi;have a6:=ga s (by omega);have hwl:(wsR f s).length≤1000000:=by
  unfold wsR;split
  ·rw [vb];omega
  ·simp
 have a7:=eG (wsR f s) hwl;have cs:(wsB f s=false)∨(wsB f s=true∧cr f=true∧fL s=true):=by
  cases hw:wsB f s
  ·exact .inl rfl
  ·have:=hw
   unfold wsB at this;simp only [Fb] at this;exact .inr ⟨rfl,this.1.1,this.1.2⟩
 have hcond:∀r1 r2:Option Out,((aj (D.tup []) (.v (.bool (wsB f s))) true (some (.v (.bool (cr f))))).bind fun z_27=>(aj (D.tup []) (.v (.bool (wsB f s))) true (un UnOp.not z_27)).bind fun z_28=>(aj (D.tup []) (.v (.bool (wsB f s))) true (some z_28)).bind fun z_29=>(aj (D.tup []) z_29 false (some (.agg [T s.1,I s.2]))).bind fun z_30 =>
   cu z_29 false (ai (ct [z_30]) fun rs _u=>some (Out.nrm [sl rs 0])) [D.tup []] fun outs=>(aj (D.tup []) z_29 false (un UnOp.not (sl outs 0))).bind fun z_31=>(aj (D.tup []) (.v (.bool (wsB f s))) true (aG z_29 (D.v (FY true)) z_31)).bind fun z_32=>ifD (if wsB f s=true then z_32 else D.v (FY false)) r1 r2)=r2:=by
  intro r1 r2;rcases cs with h | ⟨h3,h4,h5⟩
  ·rw [h]
   simp -implicitDefEqProofs only [an,EU,EV,EW]
  ·rw [h5] at a6
   rw [h3,h4];simp -implicitDefEqProofs only [an,EU,EV,EW,eu,a6]
 simp -implicitDefEqProofs only [pt,FD,Ff,dn,gV,hbig,decide_false,dJ,FA,if_false,d1,be,ta0,tc0,tg1,e0,iC,eu,a1,a2,a3,a4,a5,tv0,tv1,wD,beq_self_eq_true,Bool.not_true,nB,rv,mu,a7,aN,sd,fx,km,decide_true,if_true];refine(hcond _ _).trans ?_
 refine vx (fun q=>q=[eV more,srs f,T (txR f),.v (.bool (cr f))]) ?_ ?_
 ·rintro _ rfl
  refine vx (fun q=>q=[eV more]) ?_ ?_
  ·rintro _ rfl
   clear hcond cs a1 a2 a3 a4 a5 a6 a7;obtain⟨g,ws,d2,hg,hws⟩:=lL more ⟨h2,l2⟩;obtain⟨k,c,d3,hk⟩:=pi more ⟨h2,l2⟩;obtain⟨u,d4,hu⟩:=qR more ⟨h2,l2⟩;obtain⟨y,d5,hy⟩:=vf more ⟨h2,l2⟩;have hgi:=hg.fin;have hki:=hk.fin;have hkl:=hk.ln;have b1:=ly g ws hgi hws;have b2:=lA g ws hgi hws;have b3:=iE k c hki;have b4:=nK k c hki;have b5:=jG k c hki;have b6:=pT k c hki;have b7:=jF u hu;have b8:=pK u hu;have b9:=ga y (by omega);have b10:=tZ y (by omega);have q1:=eG (woR k c) (BO c (by omega));have q2:=eG (pfR u) (Cq u);have hset:woB k c=true→ve k c=true:=by
    intro h;unfold woB at h;simp only [Fb] at h;unfold ve;rw [h.1.1,h.1.2];rfl
   have hc2:∀r1 r2:Option Out,((aj (D.tup []) (.v (.bool (woB k c))) true (some (.v (.bool (ve k c))))).bind fun z_72=>(aj (D.tup []) (.v (.bool (woB k c))) true (un UnOp.not z_72)).bind fun z_73=>ifD (if woB k c=true then z_73 else D.v (FY false)) r1 r2)=r2:=by
    intro r1 r2;cases hw:woB k c
    ·simp -implicitDefEqProofs only [an,EU,EV,EW]
    ·rw [hset hw]
     simp -implicitDefEqProofs only [an,EU,EV,EW]
   simp -implicitDefEqProofs only [d2,be,ta0,tc0,ta1,tv0,tv1,Ff,b1,b2,d3,b3,b4,b5,b6,d4,b7,b8,d5,e0,iC,eu,aN,wD,beq_self_eq_true,Bool.not_true,nB,FA,if_false,km,decide_true,fx,rv,mu,sd,q1,q2,uL,b9,b10,Ax];refine(hc2 _ _).trans ?_
   clear hc2 b1 b2 b3 b4 b5 b6 b7 b8 b9 b10 q1 q2;refine aX (.ext 0 []) (oO (ac (mlR g ws)).length (fun i=>[srs g,txs ws,T (mlR g ws),.itr (mlR g ws) i]) _ (fun i hi=>?_) ?_ rfl rfl) ?_
   ·obtain⟨hB,n,hn,hbn,hp⟩:=Ci (EZ hi)
    unfold mlB at hB;rw [Fb] at hB;have hwl:=hws.ln;have hsz:=aO (mlR g ws);have hml:(mlR g ws).size≤26:=by
     unfold mlR;split
     ·exact ov g ws 26
     ·show 0≤26;omega
    obtain⟨n1,n2⟩:=xT hi (by rw [hbn];exact BV n hn);have hch:=sy hi;rw [hbn] at hch;simp -implicitDefEqProofs only [an,EU,EV,EW,n1,n2,tv0,tv1];refine aX _ (ie ws (fun j b=>[srs g,txs ws,T (mlR g ws),I i,.v (.bool b),.itr (mlR g ws) (i+1),txs ws,I ws.length,I j]) (fun b w=>b||(ac w).contains (gy n)) (fun b=>.ext 2 [srs g,txs ws,T (mlR g ws),I i,.v (.bool b),.itr (mlR g ws) (i+1)]) false (fun j b hj=>?_) (fun b=>?_) (fun _=>rfl) rfl) ?_
    ·have hj':(j:Int)<(ws.length:Int):=by omega
     have hwj:EY.wrap ((j:Int)+1)=((j+1:Nat):Int):=by rw [aw (by omega) (by omega)];omega
     have hgt:=kB hj;have hasc:=BS hB.2 (EZ hj);generalize ws[j]=w at hgt hasc;simp -implicitDefEqProofs only [an,EU,EV,EW,hj',hgt,Ax];refine aX _ (ie (ac w) (fun p b=>[srs g,txs ws,T (mlR g ws),I i,.v (.bool b),T w,.itr (mlR g ws) (i+1),txs ws,I ws.length,I j,.itr w p]) (fun b x=>b||decide (x=gy n)) (fun b=>.ext 4 [srs g,txs ws,T (mlR g ws),I i,.v (.bool b),.itr (mlR g ws) (i+1),txs ws,I ws.length,I j]) b (fun p b hp=>?_) (fun b=>?_) (fun _=>rfl) rfl) ?_
     ·obtain⟨o1,o2⟩:=xT hp (hasc _ (EZ hp))
      have hcp:=sy hp;cases b
      ·have hd:decide (((ac w)[p].toNat:Int)=((gy n).toNat:Int))=decide ((ac w)[p]=gy n):=decide_eq_decide.2 ⟨fun h=>UInt8.toNat_inj.1 (by omega),fun h=>by rw [h]⟩
       simp -implicitDefEqProofs only [an,EU,EV,EW,o1,o2,tv0,tv1,hcp,hch,hd,Fx]
      ·simp -implicitDefEqProofs only [an,EU,EV,EW,o1,o2,tv0,tv1,FR]
     ·obtain⟨o1,o2⟩:=Ay (s:=w)
      simp -implicitDefEqProofs only [an,EU,EV,EW,o1,o2,tv0]
     ·rw [kg,pq]
      simp -implicitDefEqProofs only [an,EU,EV,EW,hwj]
    ·have hlt:¬((ws.length:Int)<(ws.length:Int)):=by omega
     simp -implicitDefEqProofs only [an,EU,EV,EW,hlt]
    ·unfold mlP Df at hp
     rw [Fb] at hp;rw [kg,Fx,hp.1];have hwi:EY.wrap ((i:Int)+1)=((i+1:Nat):Int):=by rw [aw (by omega) (by omega)];omega
     have hsl:=sf (s:=mlR g ws) (z:=0) (i:=i) (j:=i+1) (by omega) (by omega);rw [xQ hi,hbn] at hsl;have hse:=jG g (fP n) hgi;have hfn:ve g (fP n)=false:=by
      unfold ve;rw [Option.isNone_iff_eq_none.1 hp.2];simp
     rw [hfn] at hse;have hse:cB [srs g,T ⟨#[gy n]⟩]=some (.ret [I (AX g (fP n)),B false] []):=hse;simp -implicitDefEqProofs only [an,EU,EV,EW,hwi,hsl,hse,tv0,tv1]
   ·obtain⟨n1,n2⟩:=Ay (s:=mlR g ws)
    simp -implicitDefEqProofs only [an,EU,EV,EW,n1,n2,tv0]
   ·simp -implicitDefEqProofs only [an,EU,EV,EW]
  ·intro j hj
   cases hb:cr f
   ·simp -implicitDefEqProofs only [an,EU,EV,EW]
    exact hj _ rfl
   ·have hT:=TIn.of hb
    have hz:=yR hT;have ht:txR f=eo f:=by unfold txR;rw [hb,if_pos rfl]
    have b1:=jF (eo f) (by omega);obtain⟨p1,p2⟩:=Ak hb;rw [p1,p2] at b1;have q1:=eG f (by omega);rw [ht];simp -implicitDefEqProofs only [an,EU,EV,EW,b1,ta0,tc0,tv1,q1];exact hj _ rfl
 ·intro j hj
  cases hw:wsB f s
  ·simp -implicitDefEqProofs only [an,EU,EV,EW]
   exact hj _ rfl
  ·obtain⟨g1,g2⟩:=ES hw
   have hr:wsR f s=ins f s:=by unfold wsR;rw [hw,if_pos rfl]
   have hfb:cr f=true:=by
    unfold wsB at hw;simp only [Fb] at hw;exact hw.1.1
   have b1:=iE (ins f s) s.1 (wW hfi hfb (by omega));rw [g1,g2] at b1;have q1:=eG f (by omega);rw [hr];simp -implicitDefEqProofs only [an,EU,EV,EW,b1,ta0,tc0,tv1,q1];exact hj _ rfl
end Go.Proofs.YtioabeglbjlndaaGreatDoor

end
