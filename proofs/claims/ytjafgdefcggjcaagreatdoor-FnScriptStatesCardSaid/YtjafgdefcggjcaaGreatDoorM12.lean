/-
  A part of the proof: contracts and plain forms of functions beneath the statement, made small by a program (names shortened, what is not needed left out).
-/
import Derived.Test.YtjafgdefcggjcaaGreatDoorRows
import Derived.Test.YtjafgdefcggjcaaGreatDoorTie
import Derived.Test.YtjafgdefcggjcaaGreatDoorCards
import Derived.Test.YtjafgdefcggjcaaGreatDoorM11
open Int renaming reduceLT → aiT, reduceLE → aiU, reduceEq → aiV
open ByteArray renaming size_append → aiW
open Bool renaming and_eq_true → aiX, and_false → aiY, false_and → aiZ
set_option maxRecDepth 100000
set_option linter.unusedSimpArgs false
set_option linter.unusedVariables false
noncomputable section
namespace Go.Proofs.YtjafgdefcggjcaaGreatDoor
open Go Go.V
def LH (a b:ByteArray):Bool:=okC a&&okC b&&okC (a++b)
theorem Fc (a b:ByteArray) (h:a.size≤100000) (k:b.size≤100000):iV [T a,T b]=some (.ret [T (if LH a b=true then a++b else⟨⟨[]⟩⟩),B (LH a b)] []):=by
 rw [Fi];have hab:(a++b).size≤200000:=by rw [aiW];omega
 have e1:=oc a (by omega);have e2:=oc b (by omega);have e3:=oc (a++b) (by omega);have ha:=cY (a:=a) (b:=b) (by omega) (by omega);unfold LH;generalize (if kf a=true then aN a else [])=l1 at e1;generalize (if kf b=true then aN b else [])=l2 at e2;generalize (if kf (a++b)=true then aN (a++b) else [])=l3 at e3;cases h1:okC a<;>cases h2:okC b<;>cases h3:okC (a++b)<;>rw [h1] at e1<;>rw [h2] at e2<;>rw [h3] at e3<;>simp -implicitDefEqProofs only [aw,aiT,aiU,aiV,e1,e2,e3,ha,afO,t1V,Bool.and_true,aiY,Bool.true_and,aiZ]
theorem FL (a b:ByteArray) (h:a.size≤100000) (k:b.size≤100000):ja [T a,T b]=some (.ret [T (if LH a b=true then a++b else⟨⟨[]⟩⟩),B (LH a b)] []):=by
 rw [FI];have hab:(a++b).size≤200000:=by rw [aiW];omega
 obtain⟨l1,e1,-⟩:=nl a (by omega);obtain⟨l2,e2,-⟩:=nl b (by omega);obtain⟨l3,e3,-⟩:=nl (a++b) (by omega);have ha:=cY (a:=a) (b:=b) (by omega) (by omega);unfold LH;cases h1:okC a<;>cases h2:okC b<;>cases h3:okC (a++b)<;>rw [h1] at e1<;>rw [h2] at e2<;>rw [h3] at e3<;>simp -implicitDefEqProofs only [aw,aiT,aiU,aiV,e1,e2,e3,ha,afO,t1V,Bool.and_true,aiY,Bool.true_and,aiZ]
theorem FQ (s:ByteArray) (h:s.size≤1048576):iM [T s]=some (.ret [nts (jrS s).1,B (jrS s).2] []):=by
 rw [Fq];have e1:=iS s h;simp -implicitDefEqProofs only [aw,aiT,aiU,aiV,e1,tp0,tc0,ZZ]
theorem abO (m:Me):bin .neq false [1,1,1] (me m) (me m)=some (B false):=by
 simp [bin,zP]
def ac5 (s:ByteArray):List Int:=if okC s=true then lp (aN s) (aN s).length else []
theorem Tk (s:ByteArray):(ac5 s).length≤40:=by
 unfold ac5;split
 ·rename_i hk
  have:=(xM (aN s) (aN s).length).2.2.2;unfold okC at hk;simp only [aiX,decide_eq_true_eq] at hk;omega
 ·exact Nat.zero_le _
set_option maxHeartbeats 2000000 in
theorem JR (a b:List Int) (ha:∀n∈a,0≤n∧n≤255) (hb:∀n∈b,0≤n∧n≤255):gm [jH a,jH b]=some (.ret [B true] []):=by
 rw [yT];obtain⟨p,e0,hp⟩:=YJ a b;cases p
 case true=>simp -implicitDefEqProofs only [aw,aiT,aiU,aiV,e0]
 obtain⟨s,e1,hs⟩:=LW a ⟨ha,(hp rfl).1⟩;have hz:s.size≤1048576:=by omega
 have m1:=JQ s hz;have m2:=KG s hz;have s1:=Hg s hz;have s2:=IQ s hz;have j1:=Cw s hz;have j2:=Cu s hz;have hl:=PN s;have p1:=Jh (oV s).s (by omega);have i1:=cV (oV s).m;have i2:=dl (oV s).s (by omega);have hjs:(oV s).j.size≤1048576:=by
  rcases aas s with h | h
  ·have:=h.j
   omega
  ·rw [h]
   exact Nat.zero_le _
 have r1:=FQ (oV s).j hjs;have hgood:okC s=true→cr (oV s).m=true∧cA (oV s).s=true∧(jrS (oV s).j).2=true:=by
  intro hk;have he:oV s=(dQ (aN s) (aN s).length).c:=by unfold oV;rw [if_pos hk]
  rw [he];have h:=(Cj (aN s) (aN s).length).1;exact⟨h.m,h.s,acz _ _⟩
 have tail:∀k:List D→Option Out,k [jH b]=some (.ret [B true] [])→(∀s,s=[jH b]→k s=some (.ret [B true] [])):=fun k hk s hs=>by rw [hs];exact hk
 have fin:∀(f:(List D→Option Out)→Option Out) (k:List D→Option Out),k [jH b]=some (.ret [B true] [])→(∀j:List D→Option Out,j [jH b]=some (.ret [B true] [])→f j=some (.ret [B true] []))→fj f k=some (.ret [B true] []):=by
  intro f k hk hf;exact ada (fun s=>s=[jH b]) (by rintro s rfl;exact hk) (fun j hj=>hf j (hj _ rfl))
 cases hk:okC s
 all_goals
  rw [hk] at m1 m2 s1 s2 j1 j2 hgood
  try
   obtain⟨g1,g2,g3⟩:=hgood rfl;rw [g1] at i1;rw [g2] at i2;rw [g3] at r1
  simp -implicitDefEqProofs only [aw,aiT,aiU,aiV,e0,e1,m1,m2,s1,s2,j1,j2,p1,i1,i2,aiF,aiK,aga,ZZ,t1V,t0V,sF,sO,abO,Nr,ir,beq_self_eq_true];refine fin _ _ ?_ fun j hj=>?_
  rotate_left
  ·simp -implicitDefEqProofs only [aw,aiT,aiU,aiV,hj,r1,tp0,tc0,ZZ]
  obtain⟨x,y,d1,hx,hy⟩:=It b ⟨hb,(hp rfl).2⟩;have q1:=FL x y hx hy;have q2:=Fc x y hx hy;cases hjn:LH x y
  ·rw [hjn] at q1 q2
   simp -implicitDefEqProofs only [aw,aiT,aiU,aiV,d1,q1,q2,t0V,t1V,Nr,ir,beq_self_eq_true]
  ·rw [hjn] at q1 q2
   simp only [if_true] at q1 q2;have hxy:(x++y).size≤200000:=by rw [aiW];omega
   have f1:=sQ x (by omega);have f2:=sQ (x++y) (by omega);have f3:=FG (x++y) (by omega);have hj':=hjn;unfold LH at hj';simp only [aiX] at hj';obtain⟨⟨k1,k2⟩,k3⟩:=hj';have hle:=acY (b:=y) k1;have l1:=Tk x;have l2:=Tk (x++y);unfold ac5 at l1 l2;rw [k1] at f1 l1;rw [k3] at f2 f3 l2;simp only [if_true] at f1 f2 f3 l1 l2;generalize lp (aN x) (aN x).length=F1 at *;generalize lp (aN (x++y)) (aN (x++y)).length=F2 at *;have hle':(F1.length:Int)≤(F2.length:Int):=by omega
   have e8:=Md F2 (by omega);have a1:=cY (a:=x) (b:=y) (by omega) (by omega);simp -implicitDefEqProofs only [aw,aiT,aiU,aiV,d1,q1,q2,f1,f2,f3,t0V,t1V,aiy,aga,ZZ,Nr,ir,beq_self_eq_true,af,a1,e8,hle']
end Go.Proofs.YtjafgdefcggjcaaGreatDoor

end
