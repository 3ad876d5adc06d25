/-
  A part of the proof: contracts and plain forms of functions beneath the statement, made small by a program (names shortened, what is not needed left out).
-/
import Derived.Test.YtjafgdefcggjcaaGreatDoorRows
import Derived.Test.YtjafgdefcggjcaaGreatDoorTie
import Derived.Test.YtjafgdefcggjcaaGreatDoorCards
import Derived.Test.YtjafgdefcggjcaaGreatDoorM3
import Derived.Shelf.Strings.FieldsFuncGrows
import Derived.ProofKit
import Derived.ChangeArms
import Derived.Stop.LaidErr
import Derived.Deep.DeepHandedRow
import Derived.Deep.DeepWitnessRowRef
import Derived.LaidMore
import Derived.MakeChecks
import Derived.Shelf.Vars
import Derived.JoinedCond
open Bool renaming and_eq_true → aik, false_eq_true → aim, not_false → ai3
open Option.some renaming injEq → ail
open List renaming getElem?_eq_some_iff → ain, getD_eq_getElem?_getD → aiq, getElem?_eq_getElem → air, mem_append → ait, all_eq_true → aiy, mem_append_left → aiB, not_mem_nil → aiL, getElem?_cons_zero → aiM, getElem?_eq_none → aiQ, mem_cons → aiR, getD_cons_zero → aiS, mem_map_of_mem → aiT, length_map → aiY, drop_zero → ai1, replicate → ai2
open Array renaming replicate → aio, getD_eq_getD_getElem? → aiE, getElem?_eq_some_iff → aiF, getElem?_append_left → aiG, mapM_eq_mapM_toList → aiJ, getElem?_toList → aiP
open Go.Shelf renaming Ren → aip
open Option renaming bind_eq_some_iff → ais, map_eq_some_iff → aix, isSome_iff_exists → aiK
open Nat renaming zero_add → aiu, mul → aiw, le_refl → aiN, beq → aiV, add → ai4
open Go.DataW renaming TrodAll → aiv
open Classical renaming choose → aiz
open Go.Oper renaming upon_enter → aiA
open Go.Value renaming okWide → aiC
open Go.Proofs renaming enters_of → aiD
open Int renaming toNat_natCast → aiH
open Go.Calls renaming mono → aiI
open Go.IntKind renaming i64 → aiO
open Go.Lib renaming pow10Tab → aiU, TabIs → ai5
open Go.Result renaming andThen_ok → aiW
open List.cons renaming injEq → aiX
open Go.Ending renaming returned → aiZ
open Go.Act renaming put → ai0
set_option maxRecDepth 100000
set_option linter.unusedSimpArgs false
set_option linter.unusedVariables false
noncomputable section
namespace Go.V
open Go.RowKit Go.Shelf
section
variable {P:Program} {ρ:Ren} {G:List (Nat × (Obj→Prop))}
def gy:List D→Option (List ByteArray)
 | []=>some []
 | .v (.string s)::l=>(gy l).map (s::·)
 | _=>none
theorem KB:∀(l:List D) (xs:List ByteArray),gy l=some xs→l=xs.map T
 | [],xs,h=>by simp [gy] at h;subst h;rfl
 | .v (.string s)::l,xs,h=>by
  simp only [gy] at h;obtain⟨ys,h1,rfl⟩:=aix.1 h;rw [KB l ys h1];rfl
 | .v (.bool _)::_,_,h=>by simp [gy] at h
 | .v (.int _ _)::_,_,h=>by simp [gy] at h
 | .arr _ _::_,_,h=>by simp [gy] at h
 | .agg _::_,_,h=>by simp [gy] at h
 | .ptr _::_,_,h=>by simp [gy] at h
 | .clo _ _::_,_,h=>by simp [gy] at h
 | .ifc::_,_,h=>by simp [gy] at h
 | .tup _::_,_,h=>by simp [gy] at h
 | .ref _ _::_,_,h=>by simp [gy] at h
 | .bad::_,_,h=>by simp [gy] at h
theorem Bv:∀(xs:List ByteArray),gy (xs.map T)=some xs
 | []=>rfl
 | x::xs=>by simp [gy,Bv xs]
theorem CO {w:World} {F:Nat→Prop}:∀(xs:List ByteArray) (us:List Value),cm w F (xs.map T) us→us=xs.map Value.string
 | [],us,h=>aW.1 h
 | x::xs,us,h=>by
  obtain⟨v1,v2,rfl,h1,h2⟩:=au.1 h;simp only [RepC] at h1;rw [CO xs v2 h2,h1.1];rfl
def qm (xs:List ByteArray) (sep:ByteArray):ByteArray:=⟨(Lib.join (xs.map (·.data.toList)) sep.data.toList).toArray⟩
def Ez:List D→Option Out
 | [.arr _ l,.v (.string sep)]=>(gy l).bind fun xs=>if xs.length≤140737488355328∧(qm xs sep).size≤140737488355328 then some (.ret [T (qm xs sep)] []) else none
 | _=>none
@[reducible] def adp:FS:={pm:=[.dat 2,.dat 0],rm:=[.dat 0],f:=Ez}
theorem agw (L:Go.Proofs.Lays.n156 P ρ) (X:Go.Proofs.Builder.Extra P ρ) {f:Nat} (hf:ρ.f 156=f):aw G P f adp:=by
 subst hf;have he:∀args w,(callFunc (ρ.f 156) args).run P w = .ok (.enter (ρ.f 156) args) w:=aiD L.f156 (by kernel_rfl) rfl;refine bQ he fun ds rs us hd args w F ow hg ha hF _=>?_
 obtain⟨d,y,d',y',rfl,h2,h3,h4⟩:=vM ha;replace hd:Ez [d,d']=some (.ret rs us):=hd;unfold Ez at hd;split at hd
 case h_2=>cases hd
 rename_i z l sep e;cases e;obtain⟨xs,hx,hd⟩:=ais.1 hd;split at hd
 case isFalse=>cases hd
 rename_i hz;cases hd;obtain rfl:=KB _ _ hx;obtain⟨rfl,_⟩:=Cf h4;rcases h3 with h3 | h3
 ·cases h3
 simp only [bP,RepC] at h3;obtain⟨A,c,us,hy,hc,hr,_,hA⟩:=h3;simp only [aiX,and_true] at hy;subst hy;have hus:=CO xs us hr;subst hus;rw [RQ h2];by_cases hne:xs=[]
 ·subst hne
  refine(Go.Proofs.Any.strings_Join_none L X A c sep w).mono ?_
  rintro e w' ⟨rfl,rfl⟩;refine⟨_,rfl,F,_,[_],rfl,eR (Below.refl _ _) hF rfl rfl [_] [_] rfl rfl fun j d hj=>?_⟩
  match j,hj with
  | 0,hj =>
   simp only [aiM,ail] at hj;subst hj;exact⟨_,rfl,ce.2 ⟨rfl,rfl⟩⟩
 ·obtain⟨b,o,rfl,hFb,hcells⟩:=hA (by simpa using hne)
  rw [aiY] at hc ⊢;refine(Go.Proofs.Any.strings_Join L X b o c xs sep w (fun j x hj=>hcells j _ (by simp [hj])) (hF b hFb).1 hz.1 hc (by simpa [qm,ByteArray.size] using hz.2)).mono ?_
  rintro e w' ⟨rfl,hB⟩;refine⟨_,rfl,F,_,[_],rfl,eR hB hF rfl rfl [_] [_] rfl rfl fun j d hj=>?_⟩
  match j,hj with
  | 0,hj =>
   simp only [aiM,ail] at hj;subst hj;exact⟨_,rfl,ce.2 ⟨rfl,rfl⟩⟩
theorem mc {f:FuncId} {S:FS} (he:∀args w,(callFunc f args).run P w = .ok (.enter f args) w) (hm:aw G P f S) {ds rs us:List D} (hd:S.f ds=some (.ret rs us)) {args:Array Value} {w:World} {F:Nat→Prop} {ow:Nat→Option Nat}
  (hgl:gOk G w F) (ha:fC w F ow 0 S.pm ds args.toList) (hF:∀b,F b→b<w.heap.size∧ow b=none) (hO:∀b i,ow b=some i→b<w.heap.size) :
  Calls P f args w fun e w'=>∃v,e = .returned v∧∃F' R vs,v=lf vs∧CallPost S args rs us w F ow F' R vs w':=by
 have h2:=hm ds rs us hd args w F ow hgl ha hF hO {(default:Oper) with dst:=some 0} {tmps:=#[undef],defers:=[]} (fun a w'=>∃F' R vs,a.tmps.getD 0 undef=lf vs∧CallPost S args rs us w F ow F' R vs w') (fun _ _ _=>False) (fun v w' h=>by
  obtain⟨F',R,vs,rfl,h⟩:=h;exact⟨F',R,vs,by simp [ai0],h⟩)
 rw [he,aiA] at h2;refine aiI h2 fun e w' he=>?_
 cases e with
 | returned v =>
  obtain⟨F',R,vs,h3,h4⟩:=he;exact⟨v,rfl,F',R,vs,by simpa [ai0] using h3,h4⟩
 | panicked c=>exact he.elim
 | outgrown=>obtain⟨_,_,h⟩:=he;exact h.elim
def mO (k:Nat) (p:Nat→Bool):List D→Option Out
 | [.v (.string s),.clo k' []]=>if k'=k∧s.size≤4294967296 then some (.ret [.arr 1 ((Lib.goFieldsP p s).map T)] []) else none
 | _=>none
@[reducible] def Hr (k:Nat) (p:Nat→Bool):FS:={pm:=[.dat 0,.dat 2],rm:=[.own 1 0 false],f:=mO k p}
theorem SP (L:Go.Proofs.Lays.n229 P ρ) {f:Nat} (hf:ρ.f 229=f) {k:Nat} {Sk:FS} (ek:∀args w,(callFunc k args).run P w = .ok (.enter k args) w) (Mk:aw G P k Sk) {p:Nat→Bool} (hpm:Sk.pm=[.dat 0]) (hrm:Sk.rm=[.dat 0])
  (hp:∀x:Nat,x≤1114111→Sk.f [.v (.int .i32 x)]=some (.ret [B (p x)] []))
  (hi154:(P.info? (ρ.t 154)).map (fun i=>(i.zero,i.size,i.bytes))=some (some (.agg #[.int .i64 0,.int .i64 0]),2,16))
  (hi9:(P.info? (ρ.t 9)).map (fun i=>(i.zero,i.size,i.bytes))=some (some (.string ⟨#[]⟩),1,16)):aw G P f (Hr k p):=by
 subst hf;have he:∀args w,(callFunc (ρ.f 229) args).run P w = .ok (.enter (ρ.f 229) args) w:=aiD L.f229 (by kernel_rfl) rfl;refine bQ he fun ds rs us hd args w F ow hg ha hF _=>?_
 obtain⟨d,y,d',y',rfl,h2,h3,h4⟩:=vM ha;replace hd:mO k p [d,d']=some (.ret rs us):=hd;unfold mO at hd;split at hd
 case h_2=>cases hd
 rename_i s k' e;cases e;split at hd
 case isFalse=>cases hd
 rename_i hz;obtain⟨rfl,hz⟩:=hz;cases hd;obtain⟨rfl,_⟩:=Cf h3;rcases h4 with h4 | h4
 ·cases h4
 simp only [bP,RepC] at h4;obtain⟨us,hy,hr⟩:=h4;rw [aW.1 hr] at hy;simp only [aiX,and_true] at hy;subst hy;rw [RQ h2];have hpred:Go.Proofs.PredGrows P k' #[] p w:=by
  intro W x hx hB;refine(mc ek Mk (hp x hx) (args:=#[Go.Proofs.encR x]++#[]) (w:=W) (F:=F) (ow:=fun _=>none) (iv (fun _ h=>h) (fun b hb=>hB.block b (hF b hb).1) hg) ?_ (fun b hb=>⟨Nat.lt_of_lt_of_le (hF b hb).1 hB.size,rfl⟩) (fun b i h=>by cases h)).mono ?_
  ·rw [hpm]
   exact⟨.inr (ce.2 ⟨rfl,rfl⟩),trivial⟩
  ·rintro e w' ⟨v,rfl,F',R,vs,rfl,hpost⟩
   have hl:=hpost.len;rw [hrm] at hl;obtain⟨u,rfl⟩:=List.length_eq_one_iff.1 hl;have h0:=hpost.res 0;rw [hrm] at h0;simp only [aD,nth,aiS] at h0;rcases h0 with h0 | h0
   ·cases h0
   exact⟨by rw [lf,(ce.1 h0).1],⟨hpost.os,hpost.tape,hpost.output,hpost.size,fun b hb=>hpost.keep b hb rfl⟩⟩
 refine(Go.Proofs.Any.strings_FieldsFunc_grows L k' #[] ek p s w hz hpred hi154 hi9).mono ?_
 rintro e w' ⟨A,rfl,hA,hown,hB⟩;obtain⟨_,hown⟩:=hown;rcases hown with ⟨h,_⟩ | ⟨g,cap,cur,h5,h6,h7,h8,_,h10,h11⟩
 ·cases h
 cases h5;refine⟨_,rfl,F,fun b=>if b=A then some 0 else none,[_],rfl,MB _ hB hF (fun b j hb=>?_) rfl rfl rfl rfl fun j=>?_⟩
 ·split at hb
  ·rename_i e;subst e;exact⟨hA,(aiF.1 h7).1⟩
  ·cases hb
 ·match j with
  | 0 =>
   refine .inr (On (A:=A) h7 h8 (by omega) (fun i u hu=>?_) ⟨by simp,hA⟩)
   rw [←h11,List.getElem?_take] at hu;split at hu
   ·simpa using hu
   ·cases hu
  | j+1=>exact .inl rfl
end
end Go.V

namespace Go.Proofs
open Go.Shelf
def Tryz.lays156_ren:aip:=⟨fun | 156=>183 | 165=>219 | 166=>43 | 169=>44 | 240=>59 | 241=>239 | 276=>81 | 277=>249 | n=>n,fun | 31=>62 | 9=>9 | 3=>3 | 4=>4 | 0=>0 | 20=>20 | 72=>67 | 76=>70 | 70=>65 | 37=>43 | 75=>69 | 127=>88 | 164=>111 | 5=>5 | 80=>72 | n=>n,fun | n=>n⟩
theorem Tryz.lays156:Go.Proofs.Lays.n156 Tryz.prog Tryz.lays156_ren:={
 mixed:=by kernel_rfl
 f156:=Tryz.func183.trans (congrArg some (by kernel_rfl))
 f165:=Tryz.func219.trans (congrArg some (by kernel_rfl))
 f166:=Tryz.func43.trans (congrArg some (by kernel_rfl))
 f169:=Tryz.func44.trans (congrArg some (by kernel_rfl))
 f240:=Tryz.func59.trans (congrArg some (by kernel_rfl))
 f241:=Tryz.func239.trans (congrArg some (by kernel_rfl))
 f276:=Tryz.func81.trans (congrArg some (by kernel_rfl))
 f277:=Tryz.func249.trans (congrArg some (by kernel_rfl))
 t0:=Tryz.underlying0
 a0:=Tryz.isAgg0
 z0:=Tryz.sizeOf0
 v0:=Tryz.zeroValue0
 t3:=Tryz.underlying3
 a3:=Tryz.isAgg3
 z3:=Tryz.sizeOf3
 v3:=Tryz.zeroValue3
 t4:=Tryz.underlying4
 a4:=Tryz.isAgg4
 z4:=Tryz.sizeOf4
 v4:=Tryz.zeroValue4
 t9:=Tryz.underlying9
 a9:=Tryz.isAgg9
 z9:=Tryz.sizeOf9
 v9:=Tryz.zeroValue9
 t20:=Tryz.underlying20
 a20:=Tryz.isAgg20
 z20:=Tryz.sizeOf20
 v20:=Tryz.zeroValue20
 t31:=Tryz.underlying62
 a31:=Tryz.isAgg62
 z31:=Tryz.sizeOf62
 v31:=Tryz.zeroValue62
 t37:=Tryz.underlying43
 a37:=Tryz.isAgg43
 z37:=Tryz.sizeOf43
 v37:=Tryz.zeroValue43
 t70:=Tryz.underlying65
 a70:=Tryz.isAgg65
 z70:=Tryz.sizeOf65
 v70:=Tryz.zeroValue65
 t72:=Tryz.underlying67
 a72:=Tryz.isAgg67
 z72:=Tryz.sizeOf67
 v72:=Tryz.zeroValue67
 t75:=Tryz.underlying69
 a75:=Tryz.isAgg69
 z75:=Tryz.sizeOf69
 v75:=Tryz.zeroValue69
 t76:=Tryz.underlying70
 a76:=Tryz.isAgg70
 z76:=Tryz.sizeOf70
 v76:=Tryz.zeroValue70
 t127:=Tryz.underlying88
 a127:=Tryz.isAgg88
 z127:=Tryz.sizeOf88
 v127:=Tryz.zeroValue88
 t164:=Tryz.underlying111
 a164:=Tryz.isAgg111
 z164:=Tryz.sizeOf111
 v164:=Tryz.zeroValue111}
theorem Tryz.Builder_Extra_156:Builder.Extra Tryz.prog Tryz.lays156_ren:={
 sizeBuilder:=by kernel_rfl
 liesBuilder:=by kernel_rfl
 t5:=Tryz.underlying5
 a5:=Tryz.isAgg5
 z5:=Tryz.sizeOf5
 v5:=Tryz.zeroValue5
 infoByte:=by kernel_rfl
 cellsByte:=by kernel_rfl
 sizeByte:=by kernel_rfl
 neB5:=by decide}
def Tryz.laysM171_ren:aip:=⟨fun | 171=>117 | 243=>162 | 246=>198 | 283=>227 | 284=>228 | 285=>229 | 286=>230 | 129=>243 | 317=>242 | 318=>244 | 319=>245 | 320=>246 | 337=>250 | 338=>251 | n=>n,fun | 3=>3 | 9=>9 | 2=>2 | 4=>4 | 171=>205 | 0=>0 | 53=>79 | 37=>43 | 5=>5 | 173=>208 | 212=>230 | 51=>218 | 20=>20 | 213=>231 | 46=>113 | 232=>240 | 233=>241 | n=>n,fun | 17=>5 | 18=>6 | 19=>7 | n=>n⟩
theorem Tryz.laysM171:Go.Proofs.LaysM.n171 Tryz.prog Tryz.laysM171_ren:={
 mixed:=by kernel_rfl
 f129:=Tryz.func243.trans (congrArg some (by kernel_rfl))
 f171:=Tryz.func117.trans (congrArg some (by kernel_rfl))
 f243:=Tryz.func162.trans (congrArg some (by kernel_rfl))
 f246:=Tryz.func198.trans (congrArg some (by kernel_rfl))
 f283:=Tryz.func227.trans (congrArg some (by kernel_rfl))
 f284:=Tryz.func228.trans (congrArg some (by kernel_rfl))
 f285:=Tryz.func229.trans (congrArg some (by kernel_rfl))
 f286:=Tryz.func230.trans (congrArg some (by kernel_rfl))
 f317:=Tryz.func242.trans (congrArg some (by kernel_rfl))
 f318:=Tryz.func244.trans (congrArg some (by kernel_rfl))
 f319:=Tryz.func245.trans (congrArg some (by kernel_rfl))
 f320:=Tryz.func246.trans (congrArg some (by kernel_rfl))
 f337:=Tryz.func250.trans (congrArg some (by kernel_rfl))
 f338:=Tryz.func251.trans (congrArg some (by kernel_rfl))
 t0:=Tryz.underlying0
 a0:=Tryz.isAgg0
 z0:=Tryz.sizeOf0
 v0:=Tryz.zeroValue0
 t2:=Tryz.underlying2
 a2:=Tryz.isAgg2
 z2:=Tryz.sizeOf2
 v2:=Tryz.zeroValue2
 t3:=Tryz.underlying3
 a3:=Tryz.isAgg3
 z3:=Tryz.sizeOf3
 v3:=Tryz.zeroValue3
 t4:=Tryz.underlying4
 a4:=Tryz.isAgg4
 z4:=Tryz.sizeOf4
 v4:=Tryz.zeroValue4
 t5:=Tryz.underlying5
 a5:=Tryz.isAgg5
 z5:=Tryz.sizeOf5
 v5:=Tryz.zeroValue5
 t9:=Tryz.underlying9
 a9:=Tryz.isAgg9
 z9:=Tryz.sizeOf9
 v9:=Tryz.zeroValue9
 t20:=Tryz.underlying20
 a20:=Tryz.isAgg20
 z20:=Tryz.sizeOf20
 v20:=Tryz.zeroValue20
 t37:=Tryz.underlying43
 a37:=Tryz.isAgg43
 z37:=Tryz.sizeOf43
 v37:=Tryz.zeroValue43
 t46:=Tryz.underlying113
 a46:=Tryz.isAgg113
 z46:=Tryz.sizeOf113
 v46:=Tryz.zeroValue113
 t51:=Tryz.underlying218
 a51:=Tryz.isAgg218
 z51:=Tryz.sizeOf218
 v51:=Tryz.zeroValue218
 t53:=Tryz.underlying79
 a53:=Tryz.isAgg79
 z53:=Tryz.sizeOf79
 v53:=Tryz.zeroValue79
 t171:=Tryz.underlying205
 a171:=Tryz.isAgg205
 z171:=Tryz.sizeOf205
 v171:=Tryz.zeroValue205
 t173:=Tryz.underlying208
 a173:=Tryz.isAgg208
 z173:=Tryz.sizeOf208
 v173:=Tryz.zeroValue208
 t212:=Tryz.underlying230
 a212:=Tryz.isAgg230
 z212:=Tryz.sizeOf230
 v212:=Tryz.zeroValue230
 t213:=Tryz.underlying231
 a213:=Tryz.isAgg231
 z213:=Tryz.sizeOf231
 t232:=Tryz.underlying240
 a232:=Tryz.isAgg240
 z232:=Tryz.sizeOf240
 v232:=Tryz.zeroValue240
 t233:=Tryz.underlying241
 a233:=Tryz.isAgg241
 z233:=Tryz.sizeOf241
 v233:=Tryz.zeroValue241
 g17:=by kernel_rfl
 g18:=by kernel_rfl
 g19:=by kernel_rfl
 i0:=by kernel_rfl
 i2:=by kernel_rfl
 i3:=by kernel_rfl
 i4:=by kernel_rfl
 i5:=by kernel_rfl
 i9:=by kernel_rfl
 i20:=by kernel_rfl
 i37:=by kernel_rfl
 i46:=by kernel_rfl
 i51:=by kernel_rfl
 i53:=by kernel_rfl
 i171:=by kernel_rfl
 i173:=by kernel_rfl
 i212:=by kernel_rfl
 i232:=by kernel_rfl
 i233:=by kernel_rfl
 m17:=by kernel_rfl
 m18:=by kernel_rfl
 m19:=by kernel_rfl}
def Tryz.laysC172_ren:aip:=⟨fun | 172=>116 | 244=>160 | 245=>161 | 247=>193 | 279=>194 | 280=>195 | 281=>196 | 282=>197 | 287=>224 | 316=>225 | 171=>117 | 205=>226 | 321=>240 | 322=>241 | 243=>162 | 246=>198 | 283=>227 | 284=>228 | 285=>229 | 286=>230 | 129=>243 | 317=>242 | 318=>244 | 319=>245 | 320=>246 | 337=>250 | 338=>251 | n=>n,fun | 9=>9 | 3=>3 | 75=>69 | 76=>70 | 4=>4 | 5=>5 | 167=>184 | 37=>43 | 0=>0 | 85=>185 | 2=>2 | 168=>187 | 53=>79 | 175=>200 | 46=>113 | 210=>203 | 127=>88 | 145=>228 | 143=>226 | 21=>21 | 171=>205 | 173=>208 | 212=>230 | 51=>218 | 20=>20 | 213=>231 | 232=>240 | 233=>241 | 80=>72 | n=>n,fun | 15=>1 | 16=>2 | 17=>5 | 18=>6 | 19=>7 | n=>n⟩
theorem Tryz.laysC172:Go.Proofs.LaysC.n172 Tryz.prog Tryz.laysC172_ren:={
 mixed:=by kernel_rfl
 f129:=Tryz.func243.trans (congrArg some (by kernel_rfl))
 f171:=Tryz.func117.trans (congrArg some (by kernel_rfl))
 f172:=Tryz.func116.trans (congrArg some (by kernel_rfl))
 f205:=Tryz.func226.trans (congrArg some (by kernel_rfl))
 f243:=Tryz.func162.trans (congrArg some (by kernel_rfl))
 f244:=Tryz.func160.trans (congrArg some (by kernel_rfl))
 f245:=Tryz.func161.trans (congrArg some (by kernel_rfl))
 f246:=Tryz.func198.trans (congrArg some (by kernel_rfl))
 f247:=Tryz.func193.trans (congrArg some (by kernel_rfl))
 f279:=Tryz.func194.trans (congrArg some (by kernel_rfl))
 f280:=Tryz.func195.trans (congrArg some (by kernel_rfl))
 f281:=Tryz.func196.trans (congrArg some (by kernel_rfl))
 f282:=Tryz.func197.trans (congrArg some (by kernel_rfl))
 f283:=Tryz.func227.trans (congrArg some (by kernel_rfl))
 f284:=Tryz.func228.trans (congrArg some (by kernel_rfl))
 f285:=Tryz.func229.trans (congrArg some (by kernel_rfl))
 f286:=Tryz.func230.trans (congrArg some (by kernel_rfl))
 f287:=Tryz.func224.trans (congrArg some (by kernel_rfl))
 f316:=Tryz.func225.trans (congrArg some (by kernel_rfl))
 f317:=Tryz.func242.trans (congrArg some (by kernel_rfl))
 f318:=Tryz.func244.trans (congrArg some (by kernel_rfl))
 f319:=Tryz.func245.trans (congrArg some (by kernel_rfl))
 f320:=Tryz.func246.trans (congrArg some (by kernel_rfl))
 f321:=Tryz.func240.trans (congrArg some (by kernel_rfl))
 f322:=Tryz.func241.trans (congrArg some (by kernel_rfl))
 f337:=Tryz.func250.trans (congrArg some (by kernel_rfl))
 f338:=Tryz.func251.trans (congrArg some (by kernel_rfl))
 t0:=Tryz.underlying0
 a0:=Tryz.isAgg0
 z0:=Tryz.sizeOf0
 v0:=Tryz.zeroValue0
 t2:=Tryz.underlying2
 a2:=Tryz.isAgg2
 z2:=Tryz.sizeOf2
 v2:=Tryz.zeroValue2
 t3:=Tryz.underlying3
 a3:=Tryz.isAgg3
 z3:=Tryz.sizeOf3
 v3:=Tryz.zeroValue3
 t4:=Tryz.underlying4
 a4:=Tryz.isAgg4
 z4:=Tryz.sizeOf4
 v4:=Tryz.zeroValue4
 t5:=Tryz.underlying5
 a5:=Tryz.isAgg5
 z5:=Tryz.sizeOf5
 v5:=Tryz.zeroValue5
 t9:=Tryz.underlying9
 a9:=Tryz.isAgg9
 z9:=Tryz.sizeOf9
 v9:=Tryz.zeroValue9
 t20:=Tryz.underlying20
 a20:=Tryz.isAgg20
 z20:=Tryz.sizeOf20
 v20:=Tryz.zeroValue20
 t21:=Tryz.underlying21
 a21:=Tryz.isAgg21
 z21:=Tryz.sizeOf21
 v21:=Tryz.zeroValue21
 t37:=Tryz.underlying43
 a37:=Tryz.isAgg43
 z37:=Tryz.sizeOf43
 v37:=Tryz.zeroValue43
 t46:=Tryz.underlying113
 a46:=Tryz.isAgg113
 z46:=Tryz.sizeOf113
 v46:=Tryz.zeroValue113
 t51:=Tryz.underlying218
 a51:=Tryz.isAgg218
 z51:=Tryz.sizeOf218
 v51:=Tryz.zeroValue218
 t53:=Tryz.underlying79
 a53:=Tryz.isAgg79
 z53:=Tryz.sizeOf79
 v53:=Tryz.zeroValue79
 t75:=Tryz.underlying69
 a75:=Tryz.isAgg69
 z75:=Tryz.sizeOf69
 v75:=Tryz.zeroValue69
 t76:=Tryz.underlying70
 a76:=Tryz.isAgg70
 z76:=Tryz.sizeOf70
 v76:=Tryz.zeroValue70
 t85:=Tryz.underlying185
 a85:=Tryz.isAgg185
 z85:=Tryz.sizeOf185
 v85:=Tryz.zeroValue185
 t127:=Tryz.underlying88
 a127:=Tryz.isAgg88
 z127:=Tryz.sizeOf88
 v127:=Tryz.zeroValue88
 t143:=Tryz.underlying226
 a143:=Tryz.isAgg226
 z143:=Tryz.sizeOf226
 v143:=Tryz.zeroValue226
 t145:=Tryz.underlying228
 a145:=Tryz.isAgg228
 z145:=Tryz.sizeOf228
 v145:=Tryz.zeroValue228
 t167:=Tryz.underlying184
 a167:=Tryz.isAgg184
 z167:=Tryz.sizeOf184
 v167:=Tryz.zeroValue184
 t168:=Tryz.underlying187
 a168:=Tryz.isAgg187
 z168:=Tryz.sizeOf187
 v168:=Tryz.zeroValue187
 t171:=Tryz.underlying205
 a171:=Tryz.isAgg205
 z171:=Tryz.sizeOf205
 v171:=Tryz.zeroValue205
 t173:=Tryz.underlying208
 a173:=Tryz.isAgg208
 z173:=Tryz.sizeOf208
 v173:=Tryz.zeroValue208
 t175:=Tryz.underlying200
 a175:=Tryz.isAgg200
 z175:=Tryz.sizeOf200
 v175:=Tryz.zeroValue200
 t210:=Tryz.underlying203
 a210:=Tryz.isAgg203
 z210:=Tryz.sizeOf203
 v210:=Tryz.zeroValue203
 t212:=Tryz.underlying230
 a212:=Tryz.isAgg230
 z212:=Tryz.sizeOf230
 v212:=Tryz.zeroValue230
 t213:=Tryz.underlying231
 a213:=Tryz.isAgg231
 z213:=Tryz.sizeOf231
 t232:=Tryz.underlying240
 a232:=Tryz.isAgg240
 z232:=Tryz.sizeOf240
 v232:=Tryz.zeroValue240
 t233:=Tryz.underlying241
 a233:=Tryz.isAgg241
 z233:=Tryz.sizeOf241
 v233:=Tryz.zeroValue241
 g15:=by kernel_rfl
 g16:=by kernel_rfl
 g17:=by kernel_rfl
 g18:=by kernel_rfl
 g19:=by kernel_rfl
 t80:=Tryz.underlying72
 a80:=Tryz.isAgg72
 z80:=Tryz.sizeOf72
 v80:=Tryz.zeroValue72
 i0:=by kernel_rfl
 i2:=by kernel_rfl
 i3:=by kernel_rfl
 i4:=by kernel_rfl
 i5:=by kernel_rfl
 i9:=by kernel_rfl
 i20:=by kernel_rfl
 i21:=by kernel_rfl
 i37:=by kernel_rfl
 i46:=by kernel_rfl
 i51:=by kernel_rfl
 i53:=by kernel_rfl
 i75:=by kernel_rfl
 i76:=by kernel_rfl
 i80:=by kernel_rfl
 i85:=by kernel_rfl
 i127:=by kernel_rfl
 i143:=by kernel_rfl
 i145:=by kernel_rfl
 i167:=by kernel_rfl
 i168:=by kernel_rfl
 i171:=by kernel_rfl
 i173:=by kernel_rfl
 i175:=by kernel_rfl
 i210:=by kernel_rfl
 i212:=by kernel_rfl
 i232:=by kernel_rfl
 i233:=by kernel_rfl
 m15:=by kernel_rfl
 m16:=by kernel_rfl
 m17:=by kernel_rfl
 m18:=by kernel_rfl
 m19:=by kernel_rfl
 c0:=by kernel_rfl
 c2:=by kernel_rfl
 c3:=by kernel_rfl
 c4:=by kernel_rfl
 c5:=by kernel_rfl
 c9:=by kernel_rfl
 c20:=by kernel_rfl
 c21:=by kernel_rfl
 c37:=by kernel_rfl
 c46:=by kernel_rfl
 c51:=by kernel_rfl
 c53:=by kernel_rfl
 c75:=by kernel_rfl
 c76:=by kernel_rfl
 c80:=by kernel_rfl
 c85:=by kernel_rfl
 c127:=by kernel_rfl
 c143:=by kernel_rfl
 c145:=by kernel_rfl
 c167:=by kernel_rfl
 c168:=by kernel_rfl
 c171:=by kernel_rfl
 c173:=by kernel_rfl
 c175:=by kernel_rfl
 c210:=by kernel_rfl
 c212:=by kernel_rfl
 c213:=by kernel_rfl
 c232:=by kernel_rfl
 c233:=by kernel_rfl}
def Tryz.lays145_ren:aip:=⟨fun | 145=>85 | 220=>130 | 219=>181 | 217=>215 | 225=>216 | 224=>217 | 267=>218 | 266=>237 | 314=>238 | n=>n,fun | 9=>9 | 4=>4 | 59=>117 | 3=>3 | 5=>5 | 46=>113 | 146=>219 | 51=>218 | n=>n,fun | 1=>0 | n=>n⟩
theorem Tryz.lays145:Go.Proofs.Lays.n145 Tryz.prog Tryz.lays145_ren:={
 mixed:=by kernel_rfl
 f145:=Tryz.func85.trans (congrArg some (by kernel_rfl))
 f217:=Tryz.func215.trans (congrArg some (by kernel_rfl))
 f219:=Tryz.func181.trans (congrArg some (by kernel_rfl))
 f220:=Tryz.func130.trans (congrArg some (by kernel_rfl))
 f224:=Tryz.func217.trans (congrArg some (by kernel_rfl))
 f225:=Tryz.func216.trans (congrArg some (by kernel_rfl))
 f266:=Tryz.func237.trans (congrArg some (by kernel_rfl))
 f267:=Tryz.func218.trans (congrArg some (by kernel_rfl))
 f314:=Tryz.func238.trans (congrArg some (by kernel_rfl))
 t3:=Tryz.underlying3
 a3:=Tryz.isAgg3
 z3:=Tryz.sizeOf3
 v3:=Tryz.zeroValue3
 t4:=Tryz.underlying4
 a4:=Tryz.isAgg4
 z4:=Tryz.sizeOf4
 v4:=Tryz.zeroValue4
 t5:=Tryz.underlying5
 a5:=Tryz.isAgg5
 z5:=Tryz.sizeOf5
 v5:=Tryz.zeroValue5
 t9:=Tryz.underlying9
 a9:=Tryz.isAgg9
 z9:=Tryz.sizeOf9
 v9:=Tryz.zeroValue9
 t46:=Tryz.underlying113
 a46:=Tryz.isAgg113
 z46:=Tryz.sizeOf113
 v46:=Tryz.zeroValue113
 t51:=Tryz.underlying218
 a51:=Tryz.isAgg218
 z51:=Tryz.sizeOf218
 v51:=Tryz.zeroValue218
 t59:=Tryz.underlying117
 a59:=Tryz.isAgg117
 z59:=Tryz.sizeOf117
 v59:=Tryz.zeroValue117
 t146:=Tryz.underlying219
 a146:=Tryz.isAgg219
 z146:=Tryz.sizeOf219
 v146:=Tryz.zeroValue219
 g1:=by kernel_rfl}
def Tryz.lays191_ren:aip:=⟨fun | 191=>235 | 189=>247 | 125=>253 | 257=>252 | 128=>264 | 129=>243 | 294=>255 | 295=>256 | 296=>257 | 297=>258 | 298=>259 | 299=>260 | 216=>261 | 300=>262 | 301=>263 | 328=>265 | 329=>266 | 330=>267 | 331=>268 | 332=>269 | 215=>270 | 343=>271 | n=>n,fun | 28=>38 | 0=>0 | 3=>3 | 46=>113 | 51=>218 | 53=>79 | 4=>4 | 183=>244 | 182=>243 | 131=>129 | 5=>5 | 9=>9 | 218=>249 | 222=>253 | 228=>255 | 229=>168 | n=>n,fun | n=>n⟩
theorem Tryz.lays191:Go.Proofs.Lays.n191 Tryz.prog Tryz.lays191_ren:={
 mixed:=by kernel_rfl
 f125:=Tryz.func253.trans (congrArg some (by kernel_rfl))
 f128:=Tryz.func264.trans (congrArg some (by kernel_rfl))
 f129:=Tryz.func243.trans (congrArg some (by kernel_rfl))
 f189:=Tryz.func247.trans (congrArg some (by kernel_rfl))
 f191:=Tryz.func235.trans (congrArg some (by kernel_rfl))
 f215:=Tryz.func270.trans (congrArg some (by kernel_rfl))
 f216:=Tryz.func261.trans (congrArg some (by kernel_rfl))
 f257:=Tryz.func252.trans (congrArg some (by kernel_rfl))
 f294:=Tryz.func255.trans (congrArg some (by kernel_rfl))
 f295:=Tryz.func256.trans (congrArg some (by kernel_rfl))
 f296:=Tryz.func257.trans (congrArg some (by kernel_rfl))
 f297:=Tryz.func258.trans (congrArg some (by kernel_rfl))
 f298:=Tryz.func259.trans (congrArg some (by kernel_rfl))
 f299:=Tryz.func260.trans (congrArg some (by kernel_rfl))
 f300:=Tryz.func262.trans (congrArg some (by kernel_rfl))
 f301:=Tryz.func263.trans (congrArg some (by kernel_rfl))
 f328:=Tryz.func265.trans (congrArg some (by kernel_rfl))
 f329:=Tryz.func266.trans (congrArg some (by kernel_rfl))
 f330:=Tryz.func267.trans (congrArg some (by kernel_rfl))
 f331:=Tryz.func268.trans (congrArg some (by kernel_rfl))
 f332:=Tryz.func269.trans (congrArg some (by kernel_rfl))
 f343:=Tryz.func271.trans (congrArg some (by kernel_rfl))
 t0:=Tryz.underlying0
 a0:=Tryz.isAgg0
 z0:=Tryz.sizeOf0
 v0:=Tryz.zeroValue0
 t3:=Tryz.underlying3
 a3:=Tryz.isAgg3
 z3:=Tryz.sizeOf3
 v3:=Tryz.zeroValue3
 t4:=Tryz.underlying4
 a4:=Tryz.isAgg4
 z4:=Tryz.sizeOf4
 v4:=Tryz.zeroValue4
 t5:=Tryz.underlying5
 a5:=Tryz.isAgg5
 z5:=Tryz.sizeOf5
 v5:=Tryz.zeroValue5
 t9:=Tryz.underlying9
 a9:=Tryz.isAgg9
 z9:=Tryz.sizeOf9
 v9:=Tryz.zeroValue9
 t28:=Tryz.underlying38
 a28:=Tryz.isAgg38
 z28:=Tryz.sizeOf38
 v28:=Tryz.zeroValue38
 t46:=Tryz.underlying113
 a46:=Tryz.isAgg113
 z46:=Tryz.sizeOf113
 v46:=Tryz.zeroValue113
 t51:=Tryz.underlying218
 a51:=Tryz.isAgg218
 z51:=Tryz.sizeOf218
 v51:=Tryz.zeroValue218
 t53:=Tryz.underlying79
 a53:=Tryz.isAgg79
 z53:=Tryz.sizeOf79
 v53:=Tryz.zeroValue79
 t131:=Tryz.underlying129
 a131:=Tryz.isAgg129
 z131:=Tryz.sizeOf129
 v131:=Tryz.zeroValue129
 t182:=Tryz.underlying243
 a182:=Tryz.isAgg243
 z182:=Tryz.sizeOf243
 v182:=Tryz.zeroValue243
 t183:=Tryz.underlying244
 a183:=Tryz.isAgg244
 z183:=Tryz.sizeOf244
 v183:=Tryz.zeroValue244
 t218:=Tryz.underlying249
 a218:=Tryz.isAgg249
 z218:=Tryz.sizeOf249
 v218:=Tryz.zeroValue249
 t222:=Tryz.underlying253
 a222:=Tryz.isAgg253
 z222:=Tryz.sizeOf253
 v222:=Tryz.zeroValue253
 t228:=Tryz.underlying255
 a228:=Tryz.isAgg255
 z228:=Tryz.sizeOf255
 v228:=Tryz.zeroValue255
 t229:=Tryz.underlying168
 a229:=Tryz.isAgg168
 z229:=Tryz.sizeOf168
 v229:=Tryz.zeroValue168}
def Tryz.lays100_ren:aip:=⟨fun | 100=>72 | 207=>92 | n=>n,fun | 9=>9 | 4=>4 | 3=>3 | n=>n,fun | n=>n⟩
theorem Tryz.lays100:Go.Proofs.Lays.n100 Tryz.prog Tryz.lays100_ren:={
 mixed:=by kernel_rfl
 f100:=Tryz.func72.trans (congrArg some (by kernel_rfl))
 f207:=Tryz.func92.trans (congrArg some (by kernel_rfl))
 t3:=Tryz.underlying3
 a3:=Tryz.isAgg3
 z3:=Tryz.sizeOf3
 v3:=Tryz.zeroValue3
 t4:=Tryz.underlying4
 a4:=Tryz.isAgg4
 z4:=Tryz.sizeOf4
 v4:=Tryz.zeroValue4
 t9:=Tryz.underlying9
 a9:=Tryz.isAgg9
 z9:=Tryz.sizeOf9
 v9:=Tryz.zeroValue9}
def Tryz.lays102_ren:aip:=⟨fun | 102=>71 | 209=>91 | 207=>92 | n=>n,fun | 9=>9 | 4=>4 | 3=>3 | n=>n,fun | n=>n⟩
theorem Tryz.lays102:Go.Proofs.Lays.n102 Tryz.prog Tryz.lays102_ren:={
 mixed:=by kernel_rfl
 f102:=Tryz.func71.trans (congrArg some (by kernel_rfl))
 f207:=Tryz.func92.trans (congrArg some (by kernel_rfl))
 f209:=Tryz.func91.trans (congrArg some (by kernel_rfl))
 t3:=Tryz.underlying3
 a3:=Tryz.isAgg3
 z3:=Tryz.sizeOf3
 v3:=Tryz.zeroValue3
 t4:=Tryz.underlying4
 a4:=Tryz.isAgg4
 z4:=Tryz.sizeOf4
 v4:=Tryz.zeroValue4
 t9:=Tryz.underlying9
 a9:=Tryz.isAgg9
 z9:=Tryz.sizeOf9
 v9:=Tryz.zeroValue9}
def Tryz.laysM146_ren:aip:=⟨fun | 146=>70 | 221=>90 | 268=>135 | 138=>136 | 143=>137 | 195=>184 | 197=>185 | 218=>186 | 219=>181 | 260=>220 | 217=>215 | 225=>216 | 224=>217 | 267=>218 | 266=>237 | 314=>238 | n=>n,fun | 9=>9 | 31=>62 | 3=>3 | 4=>4 | 0=>0 | 105=>179 | 21=>21 | 5=>5 | 46=>113 | 119=>221 | 139=>224 | 138=>223 | 146=>219 | 51=>218 | n=>n,fun | 1=>0 | 3=>3 | 4=>4 | n=>n⟩
theorem Tryz.laysM146:Go.Proofs.LaysM.n146 Tryz.prog Tryz.laysM146_ren:={
 mixed:=by kernel_rfl
 f138:=Tryz.func136.trans (congrArg some (by kernel_rfl))
 f143:=Tryz.func137.trans (congrArg some (by kernel_rfl))
 f146:=Tryz.func70.trans (congrArg some (by kernel_rfl))
 f195:=Tryz.func184.trans (congrArg some (by kernel_rfl))
 f197:=Tryz.func185.trans (congrArg some (by kernel_rfl))
 f217:=Tryz.func215.trans (congrArg some (by kernel_rfl))
 f218:=Tryz.func186.trans (congrArg some (by kernel_rfl))
 f219:=Tryz.func181.trans (congrArg some (by kernel_rfl))
 f221:=Tryz.func90.trans (congrArg some (by kernel_rfl))
 f224:=Tryz.func217.trans (congrArg some (by kernel_rfl))
 f225:=Tryz.func216.trans (congrArg some (by kernel_rfl))
 f260:=Tryz.func220.trans (congrArg some (by kernel_rfl))
 f266:=Tryz.func237.trans (congrArg some (by kernel_rfl))
 f267:=Tryz.func218.trans (congrArg some (by kernel_rfl))
 f268:=Tryz.func135.trans (congrArg some (by kernel_rfl))
 f314:=Tryz.func238.trans (congrArg some (by kernel_rfl))
 t0:=Tryz.underlying0
 a0:=Tryz.isAgg0
 z0:=Tryz.sizeOf0
 v0:=Tryz.zeroValue0
 t3:=Tryz.underlying3
 a3:=Tryz.isAgg3
 z3:=Tryz.sizeOf3
 v3:=Tryz.zeroValue3
 t4:=Tryz.underlying4
 a4:=Tryz.isAgg4
 z4:=Tryz.sizeOf4
 v4:=Tryz.zeroValue4
 t5:=Tryz.underlying5
 a5:=Tryz.isAgg5
 z5:=Tryz.sizeOf5
 v5:=Tryz.zeroValue5
 t9:=Tryz.underlying9
 a9:=Tryz.isAgg9
 z9:=Tryz.sizeOf9
 v9:=Tryz.zeroValue9
 t21:=Tryz.underlying21
 a21:=Tryz.isAgg21
 z21:=Tryz.sizeOf21
 v21:=Tryz.zeroValue21
 t31:=Tryz.underlying62
 a31:=Tryz.isAgg62
 z31:=Tryz.sizeOf62
 v31:=Tryz.zeroValue62
 t46:=Tryz.underlying113
 a46:=Tryz.isAgg113
 z46:=Tryz.sizeOf113
 v46:=Tryz.zeroValue113
 t51:=Tryz.underlying218
 a51:=Tryz.isAgg218
 z51:=Tryz.sizeOf218
 v51:=Tryz.zeroValue218
 t105:=Tryz.underlying179
 a105:=Tryz.isAgg179
 z105:=Tryz.sizeOf179
 v105:=Tryz.zeroValue179
 t119:=Tryz.underlying221
 a119:=Tryz.isAgg221
 z119:=Tryz.sizeOf221
 t138:=Tryz.underlying223
 a138:=Tryz.isAgg223
 z138:=Tryz.sizeOf223
 v138:=Tryz.zeroValue223
 t139:=Tryz.underlying224
 a139:=Tryz.isAgg224
 z139:=Tryz.sizeOf224
 v139:=Tryz.zeroValue224
 t146:=Tryz.underlying219
 a146:=Tryz.isAgg219
 z146:=Tryz.sizeOf219
 v146:=Tryz.zeroValue219
 g1:=by kernel_rfl
 g3:=by kernel_rfl
 g4:=by kernel_rfl
 i0:=by kernel_rfl
 i3:=by kernel_rfl
 i4:=by kernel_rfl
 i5:=by kernel_rfl
 i9:=by kernel_rfl
 i21:=by kernel_rfl
 i31:=by kernel_rfl
 i46:=by kernel_rfl
 i51:=by kernel_rfl
 i105:=by kernel_rfl
 i138:=by kernel_rfl
 i139:=by kernel_rfl
 i146:=by kernel_rfl
 m1:=by kernel_rfl
 s1_3:=fun w h=>Go.Proofs.cell_of_shapedOpen_int (zero:=#[.int .i64 0]) (t:=3) h (of_decide_eq_true (by kernel_rfl)) (by kernel_rfl) rfl (by kernel_rfl) (by kernel_rfl) Tryz.underlying3
 m3:=by kernel_rfl
 m4:=by kernel_rfl}
def Tryz.lays229_ren:aip:=⟨fun | 229=>131 | n=>n,fun | 9=>9 | 40=>154 | 31=>62 | 152=>175 | 3=>3 | 0=>0 | 4=>4 | 21=>21 | 154=>177 | n=>n,fun | n=>n⟩
theorem Tryz.lays229:Go.Proofs.Lays.n229 Tryz.prog Tryz.lays229_ren:={
 mixed:=by kernel_rfl
 f229:=Tryz.func131.trans (congrArg some (by kernel_rfl))
 t0:=Tryz.underlying0
 a0:=Tryz.isAgg0
 z0:=Tryz.sizeOf0
 v0:=Tryz.zeroValue0
 t3:=Tryz.underlying3
 a3:=Tryz.isAgg3
 z3:=Tryz.sizeOf3
 v3:=Tryz.zeroValue3
 t4:=Tryz.underlying4
 a4:=Tryz.isAgg4
 z4:=Tryz.sizeOf4
 v4:=Tryz.zeroValue4
 t9:=Tryz.underlying9
 a9:=Tryz.isAgg9
 z9:=Tryz.sizeOf9
 v9:=Tryz.zeroValue9
 t21:=Tryz.underlying21
 a21:=Tryz.isAgg21
 z21:=Tryz.sizeOf21
 v21:=Tryz.zeroValue21
 t31:=Tryz.underlying62
 a31:=Tryz.isAgg62
 z31:=Tryz.sizeOf62
 v31:=Tryz.zeroValue62
 t40:=Tryz.underlying154
 a40:=Tryz.isAgg154
 z40:=Tryz.sizeOf154
 v40:=Tryz.zeroValue154
 t152:=Tryz.underlying175
 a152:=Tryz.isAgg175
 z152:=Tryz.sizeOf175
 v152:=Tryz.zeroValue175
 t154:=Tryz.underlying177
 a154:=Tryz.isAgg177
 z154:=Tryz.sizeOf177
 v154:=Tryz.zeroValue177}
end Go.Proofs
namespace Go.Proofs.YtjafgdefcggjcaaGreatDoor
open Go Go.V Go.Shelf
set_option maxRecDepth 100000
def gl0:List (Nat × (Obj→Prop)):=[(0,MG 0)]
def gl1:List (Nat × (Obj→Prop)):=gl0++[(5,Gc)]
def gl2:List (Nat × (Obj→Prop)):=gl1++[(1,JW),(2,JW)]
theorem JL:∀p∈gl0,p∈gl1:=fun _ hp=>aiB _ hp
theorem CD:∀p∈gl1,p∈gl2:=fun _ hp=>aiB _ hp
theorem qi:∀p∈gl0,p∈gl2:=fun p hp=>CD p (JL p hp)
@[reducible] def sq:FS:=acj
theorem rW:aw gl1 Tryz.prog 117 sq:=agm Tryz.laysM171 (by kernel_rfl) (show(5,Gc)∈gl1 by simp [gl0,gl1]) (by kernel_rfl)
@[reducible] def sL:FS:=abT
theorem sS:aw gl2 Tryz.prog 116 sL:=ahd Tryz.laysC172 (by kernel_rfl) (by kernel_rfl) (by kernel_rfl) (show(1,JW)∈gl2 by simp [gl0,gl1,gl2]) (show(2,JW)∈gl2 by simp [gl0,gl1,gl2])
@[reducible] def qK:FS:=Kz
theorem CA:aw gl0 Tryz.prog 72 qK:=Xj Tryz.lays100 (by kernel_rfl)
@[reducible] def pD:FS:=Ii
theorem Ar:aw gl0 Tryz.prog 71 pD:=Uj Tryz.lays102 (by kernel_rfl)
@[reducible] def De:FS:=afZ
theorem EA:aw gl0 Tryz.prog 85 De:=ahr Tryz.lays145 (by kernel_rfl) (by kernel_rfl) (show(0,MG 0)∈gl0 by simp [gl0])
@[reducible] def yJ:FS:=ZR
theorem xM:aw gl0 Tryz.prog 70 yJ:=aeS Tryz.laysM146 (by kernel_rfl) (by kernel_rfl) (show(0,MG 0)∈gl0 by simp [gl0])
@[reducible] def Bc:FS:=adp
theorem MX:aw gl0 Tryz.prog 183 Bc:=agw Tryz.lays156 Tryz.Builder_Extra_156 (by kernel_rfl)
end Go.Proofs.YtjafgdefcggjcaaGreatDoor

namespace Go.V
open Go.RowKit Go.WideShapes Go.ChangeShapes
mutual
inductive Sh where
 | int (k:IntKind)
 | bool
 | str
 | sl (e:Sh)
 | st (l:ShL)
inductive ShL where
 | nil
 | cons (h:Sh) (t:ShL)
end
mutual
def Sh.size:Sh→Nat
 | .int _=>1
 | .bool=>1
 | .str=>1
 | .sl _=>1
 | .st l=>l.size
def ShL.size:ShL→Nat
 | .nil=>0
 | .cons h t=>h.size+t.size
end
def Sh.isSt:Sh→Bool
 | .st _=>true
 | _=>false
mutual
def Sh.flat:Sh→Bool
 | .int _=>true
 | .bool=>true
 | .str=>true
 | .sl _=>false
 | .st l=>l.flat
def ShL.flat:ShL→Bool
 | .nil=>true
 | .cons h t=>h.flat&&t.flat
end
def wrap (ag:Bool) (m:List D):D:=if ag then .agg m else nth m 0
mutual
def Sh.Is:Sh→List D→Prop
 | .int k,l=>∃n,l=[.v (.int k n)]∧k.min≤n∧n≤k.max
 | .bool,l=>∃b,l=[B b]
 | .str,l=>∃s,l=[T s]∧s.size≤maxLen
 | .sl e,l=>∃ds,l=[.arr e.size ds]∧ds.length≤maxLen∧∀d∈ds,∃m,e.Is m∧d=wrap e.isSt m
 | .st fs,l=>fs.Is l
def ShL.Is:ShL→List D→Prop
 | .nil,l=>l=[]
 | .cons h t,l=>∃a b,l=a++b∧h.Is a∧t.Is b
end
mutual
def Sh.ok (P:Program):Sh→TypeId→Bool
 | .int k,t=>match P.underlying t with
  | some (.int k')=>decide (k'=k)
  | _=>false
 | .bool,t=>match P.underlying t with
  | some .bool=>true
  | _=>false
 | .str,t=>match P.underlying t with
  | some .string=>true
  | _=>false
 | .sl e,t=>match P.underlying t with
  | some (.slice u)=>e.ok P u&&decide (P.cellsOf u=e.size)&&decide (0<e.size)
  | _=>false
 | .st l,t=>match P.underlying t with
  | some (.struct fs)=>l.ok P 0 fs.toList&&decide (P.cellsOf t=l.size)
  | _=>false
def ShL.ok (P:Program):ShL→Nat→List Field→Bool
 | .nil,_,[]=>true
 | .cons h t,off,f::fs=>decide (f.offset=off)&&h.ok P f.type&&decide (P.cellsOf f.type=h.size)&&t.ok P (off+h.size) fs
 | _,_,_=>false
end
section
variable {H:Type} {enc:TypeId × Value→H} {P:Program} {W:World}
theorem Sh.len_one {sh:Sh} (h:sh.isSt=false):sh.size=1:=by
 cases sh<;>simp_all [Sh.isSt,Sh.size]
theorem acd {a:Addr} {n:Nat} {vs:List Value} (h:W.cells? 0 a n=some vs):vs.length=n∧∀i u,vs[i]?=some u→W.cell? (a.add i)=some u:=by
 simp only [World.cells?,Nat.zero_le,if_true] at h;have hl:=mapM_some_length h;rw [List.length_range] at hl;refine⟨hl,fun i u hu=>?_⟩
 have hi:i<n:=by
  rw [←hl];exact(ain.1 hu).1
 rw [mapM_some_get h i i (by simp [hi]),hu]
theorem aev (a:Addr) (i j:Nat):(a.add i).add j=a.add (i+j):=by
 unfold Addr.add;by_cases hi:i=0<;>by_cases hj:j=0<;>simp [hi,hj,Nat.add_assoc]
theorem abd {a:Addr} {u:Value} (h:W.cell? a=some u):a.spot=none∧a.block<W.heap.size:=by
 unfold World.cell? at h;split at h
 case h_2=>cases h
 rename_i hb;split at h
 ·cases h
 rename_i hs;refine⟨by simpa using hs,?_⟩
 rcases Nat.lt_or_ge a.block W.heap.size with h' | h'
 ·exact h'
 ·rw [Array.getElem?_eq_none h'] at hb;cases hb
theorem pN {F:Nat→Prop} {d:D} {vs:List Value}:cm W F [d] vs↔RepC W F d vs:=by
 rw [au];constructor
 ·rintro⟨v1,v2,rfl,h1,h2⟩
  rw [aW.1 h2,List.append_nil];exact h1
 ·intro h
  exact⟨vs,[],by simp,h,aW.2 rfl⟩
theorem abe {F:Nat→Prop} {sh:Sh} {L:List D} {vs:List Value} (hr:cm W F L vs) (hs:L.all D.single=true) (hl:L.length=sh.size):RepC W F (wrap sh.isSt L) vs∧(wrap sh.isSt L).width=sh.size:=by
 cases hb:sh.isSt
 ·have h1:=Sh.len_one hb
  match L,hl.trans h1 with
  | [d],_ =>
   simp only [wrap,aim,if_false,nth];refine⟨pN.1 hr,?_⟩
   rw [h1];exact(gx (by simpa using hs)).1
 ·simp only [wrap,if_true]
  refine⟨by rw [RepC];exact⟨hr,hs⟩,?_⟩
  simpa [D.width,D.cells] using hl
mutual
theorem Sh.opened:∀(sh:Sh) (t:TypeId) (fuel:Nat) (cs:List Value) (x:DataW H × List MemPlace),sh.ok P t=true→DataW.trod enc P W 0 (fun _=>true) true fuel t cs=some x →
  ∃L,sh.Is L∧cm W (·<W.heap.size) L cs∧L.all D.single=true∧L.length=sh.size
 | .int k,t,fuel,cs,x,hok,h=>by
  simp only [Sh.ok] at hok;split at hok
  case h_2=>cases hok
  rename_i k' hu;have hk:=of_decide_eq_true hok;subst hk;obtain⟨n,rfl,-,hw⟩:=DataW.trod_int hu h;simp only [Lit.wf,aik,decide_eq_true_eq] at hw;refine⟨[.v (.int k' n)],⟨n,rfl,hw⟩,pN.2 ?_,rfl,rfl⟩
  simp [RepC,V.flat]
 | .bool,t,fuel,cs,x,hok,h=>by
  simp only [Sh.ok] at hok;split at hok
  case h_2=>cases hok
  rename_i hu;obtain⟨n,rfl,-⟩:=DataW.trod_bool hu h;refine⟨[B n],⟨n,rfl⟩,pN.2 ?_,rfl,rfl⟩
  simp [RepC,V.flat]
 | .str,t,fuel,cs,x,hok,h=>by
  simp only [Sh.ok] at hok;split at hok
  case h_2=>cases hok
  rename_i hu;obtain⟨s,rfl,-,hw⟩:=DataW.trod_string hu h;refine⟨[T s],⟨s,rfl,hw⟩,pN.2 ?_,rfl,rfl⟩
  simp [RepC,V.flat]
 | .sl e,t,fuel,cs,x,hok,h=>by
  simp only [Sh.ok] at hok;split at hok
  case h_2=>cases hok
  rename_i u hu;simp only [aik,decide_eq_true_eq] at hok;obtain⟨⟨hok,hz⟩,hpos⟩:=hok;rcases DataW.trod_slice hu h with ⟨rfl,-⟩ | ⟨a,len,cap,elems,rest,n,rfl,rfl,-,-,hle,hcap,hlen,hel,-⟩
  ·refine⟨[.arr e.size []],⟨[],rfl,by simp,by simp⟩,pN.2 ?_,rfl,rfl⟩
   rw [RepC];exact⟨none,0,[],rfl,aiN _,aW.2 rfl,by simp,by simp⟩
  ·have key:∀k,k≤len→∃ds us,ds.length=k∧us.length=k*e.size∧cm W (·<W.heap.size) ds us∧(∀d∈ds,d.width=e.size)∧(∀d∈ds,∃m,e.Is m∧d=wrap e.isSt m)∧∀i v,us[i]?=some v→W.cell? (a.add i)=some v:=by
    intro k;induction k with
    | zero=>exact fun _=>⟨[],[],rfl,by simp,aW.2 rfl,by simp,by simp,by simp⟩
    | succ k ih =>
     intro hk;obtain⟨ds,us,h1,h2,h3,h4,h5,h6⟩:=ih (by omega);have hi:=hel k (by omega);rw [air (by omega)] at hi;obtain⟨vs,hc,hd⟩:=ais.1 hi;obtain⟨L,g1,g2,g3,g4⟩:=Sh.opened e u n vs _ hok hd;obtain⟨g5,g6⟩:=acd hc;obtain⟨g7,g8⟩:=abe g2 g3 g4;rw [hz] at g5 g6;refine⟨ds++[wrap e.isSt L],us++vs,by simp [h1],by simp [h2,g5,Nat.succ_mul],(fb _ _ _).2 ⟨us,vs,rfl,h3,pN.2 g7⟩,?_,?_,fun i v hv=>?_⟩
     ·intro d hd
      rcases ait.1 hd with hd | hd
      ·exact h4 d hd
      ·simp at hd;subst hd;exact g8
     ·intro d hd
      rcases ait.1 hd with hd | hd
      ·exact h5 d hd
      ·simp at hd;subst hd;exact⟨L,g1,rfl⟩
     ·rcases Nat.lt_or_ge i us.length with hlt | hge
      ·rw [List.getElem?_append_left hlt] at hv
       exact h6 i v hv
      ·rw [List.getElem?_append_right hge] at hv
       have:=g6 _ v hv;rw [aev,←h2] at this;rw [show us.length+(i - us.length)=i from by omega] at this;exact this
   obtain⟨ds,us,h1,h2,h3,h4,h5,h6⟩:=key len (aiN _);refine⟨[.arr e.size ds],⟨ds,rfl,by omega,h5⟩,pN.2 ?_,rfl,rfl⟩
   rw [RepC];refine⟨some a,cap,us,by rw [h1],by omega,h3,h4,fun hne=>?_⟩
   have hpl:0<us.length:=by
    rw [h2,←h1];exact Nat.mul_pos (List.length_pos_iff.2 hne) hpos
   have h0:=h6 0 _ (air hpl);have ha0:a.add 0=a:=by simp [Addr.add]
   rw [ha0] at h0;obtain⟨hsp,hbl⟩:=abd h0;have ea:a=⟨a.block,a.off,none⟩:=by
    rw [←hsp]
   refine⟨a.block,a.off,by rw [←ea],hbl,fun i v hv=>?_⟩
   have:=h6 i v hv;unfold Addr.add at this;split at this
   ·rename_i hi0
    subst hi0;rw [Nat.add_zero,←ea];exact this
   ·rw [←hsp]
    rw [hsp];exact this
 | .st l,t,fuel,cs,x,hok,h=>by
  simp only [Sh.ok] at hok;split at hok
  case h_2=>cases hok
  rename_i fs hu;simp only [aik,decide_eq_true_eq] at hok;obtain⟨xs,n,rfl,-,hlen,hxl,hf⟩:=DataW.trod_struct hu h;obtain⟨L,g1,g2,g3,g4⟩:=ShL.opened l 0 fs.toList n cs hok.1 (fun f hf'=>by
   obtain⟨i,hi,he⟩:=List.mem_iff_getElem.1 hf';have:=hf i f (by rw [←he];simp at hi ⊢);rw [air (by simp at hi;omega)] at this;exact⟨_,this⟩)
  rw [ai1,←hok.2,←hlen,List.take_length] at g2;exact⟨L,g1,g2,g3,g4⟩
theorem ShL.opened:∀(l:ShL) (off:Nat) (fs:List Field) (fuel:Nat) (cs:List Value),l.ok P off fs=true→(∀f∈fs,∃x,DataW.trod enc P W 0 (fun _=>true) true fuel f.type ((cs.drop f.offset).take (P.cellsOf f.type))=some x) →
  ∃L,l.Is L∧cm W (·<W.heap.size) L ((cs.drop off).take l.size)∧L.all D.single=true∧L.length=l.size
 | .nil,off,[],fuel,cs,hok,h=>⟨[],rfl,by simp [ShL.size,aW],rfl,rfl⟩
 | .nil,off,_::_,fuel,cs,hok,h=>by simp [ShL.ok] at hok
 | .cons a t,off,[],fuel,cs,hok,h=>by simp [ShL.ok] at hok
 | .cons a t,off,f::fs,fuel,cs,hok,h=>by
  simp only [ShL.ok,aik,decide_eq_true_eq] at hok;obtain⟨⟨⟨h1,h2⟩,h3⟩,h4⟩:=hok;obtain⟨x,hx⟩:=h f (by simp);obtain⟨L,g1,g2,g3,g4⟩:=Sh.opened a f.type fuel _ x h2 hx;obtain⟨M,k1,k2,k3,k4⟩:=ShL.opened t (off+a.size) fs fuel cs h4 (fun f hf=>h f (by simp [hf]));refine⟨L++M,⟨L,M,rfl,g1,k1⟩,(fb _ _ _).2 ⟨_,_,?_,g2,k2⟩,by simp [g3,k3],by simp [ShL.size,g4,k4]⟩
  rw [h1,h3,ShL.size,←List.drop_drop,←List.take_add]
end
def TZ:D→Bool
 | .v _=>true
 | _=>false
theorem aey {L:List D} (h:L.all TZ=true):(D.agg L).isV=true:=by
 simp only [D.isV];refine aiy.2 fun d hd=>?_
 have:=aiy.1 h d hd;cases d<;>simp_all [TZ]
mutual
theorem Sh.isV_of:∀(sh:Sh) (L:List D),sh.flat=true→sh.Is L→L.all TZ=true
 | .int k,L,_,h=>by obtain⟨n,rfl,_⟩:=h;rfl
 | .bool,L,_,h=>by obtain⟨n,rfl⟩:=h;rfl
 | .str,L,_,h=>by obtain⟨n,rfl,_⟩:=h;rfl
 | .sl _,L,h,_=>by simp [Sh.flat] at h
 | .st l,L,h,hl=>ShL.isV_of l L (by simpa [Sh.flat] using h) hl
theorem ShL.isV_of:∀(sh:ShL) (L:List D),sh.flat=true→sh.Is L→L.all TZ=true
 | .nil,L,_,h=>by cases h;rfl
 | .cons a t,L,h,hl=>by
  obtain⟨x,y,rfl,h1,h2⟩:=hl;simp only [ShL.flat,aik] at h;rw [List.all_append,Sh.isV_of a x h.1 h1,ShL.isV_of t y h.2 h2];rfl
end
def Sh.IsV (sh:Sh) (d:D):Prop:=∃m,sh.Is m∧d=wrap sh.isSt m
theorem Sh.arg {sh:Sh} {t:TypeId} {v:Value} {d:DataW H} {ps:List MemPlace} {base:Nat} (hok:sh.ok P t=true) (hv:aiC P W .any base t v) (h:DataW.Trod enc P W 0 (fun _=>true) true t v d ps) :
  ∃x,sh.IsV x∧bP W (·<W.heap.size) x v∧(sh.flat=true→x.isV=true):=by
 obtain⟨fuel,h⟩:=h;obtain⟨L,h1,h2,h3,h4⟩:=Sh.opened sh t fuel _ _ hok h;refine⟨_,⟨L,h1,rfl⟩,?_,fun hf=>?_⟩
 ·cases hb:sh.isSt
  ·have h1':=Sh.len_one hb
   have hone:v.cells.toList=[v]:=by
    cases sh<;>simp only [Sh.isSt,Bool.true_eq_false] at hb<;>simp only [Sh.ok] at hok<;>split at hok<;>rename_i hu
    ·obtain⟨n,rfl⟩:=okWide_int hu hv;rfl
    ·cases hok
    ·obtain⟨n,rfl⟩:=okWide_bool hu hv;rfl
    ·cases hok
    ·obtain⟨n,rfl⟩:=okWide_string hu hv;rfl
    ·cases hok
    ·obtain⟨_,_,_,rfl⟩:=okWide_slice hu hv;rfl
    ·cases hok
   match L,h4.trans h1' with
   | [e],_ =>
    simp only [wrap,aim,if_false,nth];have hs:e.single=true:=by simpa using h3
    rw [hone] at h2;exact(mF hs).2 (pN.1 h2)
  ·simp only [wrap,if_true]
   have:∃cs,v = .agg cs:=by
    cases sh<;>simp only [Sh.isSt,aim] at hb;simp only [Sh.ok] at hok;split at hok
    case h_2=>cases hok
    rename_i hu;simp only [aiC,hu] at hv;obtain⟨cs,h,_⟩:=hv;exact⟨cs,h⟩
   obtain⟨cs,rfl⟩:=this;refine⟨cs.toList,by simp,?_⟩
   rw [RepC];exact⟨by simpa [Value.cells] using h2,h3⟩
 ·have:=Sh.isV_of sh L hf h1
  cases hb:sh.isSt
  ·match L,h4.trans (Sh.len_one hb) with
   | [e],_ =>
    simp only [wrap,aim,if_false,nth];cases e<;>simp [TZ] at this;rfl
  ·simp only [wrap,if_true]
   exact aey this
theorem ahh {k:IntKind} {x:D} (h:(Sh.int k).IsV x):∃n,x = .v (.int k n)∧k.min≤n∧n≤k.max:=by
 obtain⟨_,⟨n,rfl,h⟩,rfl⟩:=h;exact⟨n,rfl,h⟩
theorem agc {x:D} (h:Sh.str.IsV x):∃s,x=T s∧s.size≤maxLen:=by
 obtain⟨_,⟨n,rfl,h⟩,rfl⟩:=h;exact⟨n,rfl,h⟩
theorem ahn {e:Sh} {x:D} (h:(Sh.sl e).IsV x):∃ds,x = .arr e.size ds∧ds.length≤maxLen∧∀d∈ds,e.IsV d:=by
 obtain⟨_,⟨n,rfl,h,h'⟩,rfl⟩:=h;exact⟨n,rfl,h,h'⟩
def Ko (P:Program):List Sh→List TypeId→List Kd→Bool
 | [],[],[]=>true
 | sh::shs,t::ts,.dat lv::ks=>sh.ok P t&&(aiV lv 2||(aiV lv 0&&sh.flat))&&Ko P shs ts ks
 | _,_,_=>false
def OJ:List Sh→List D→Prop
 | [],[]=>True
 | sh::shs,d::ds=>sh.IsV d∧OJ shs ds
 | _,_=>False
theorem ae4 {a:Sh} {ds:List D} (h:OJ [a] ds):∃x,ds=[x]∧a.IsV x:=by
 match ds,h with
 | [x],⟨h1,_⟩=>exact⟨x,rfl,h1⟩
theorem aeK {a b:Sh} {ds:List D} (h:OJ [a,b] ds):∃x y,ds=[x,y]∧a.IsV x∧b.IsV y:=by
 match ds,h with
 | [x,y],⟨h1,h2,_⟩=>exact⟨x,y,rfl,h1,h2⟩
theorem aad {base:Nat}:∀(shs:List Sh) (ts:List TypeId) (ks:List Kd) (vs:List Value) (ds:List (DataW H)) (ps:List MemPlace) (i:Nat),Ko P shs ts ks=true→aiv enc P W 0 (fun _=>true) true ts vs ds ps →
  (∀(j:Nat) t v,ts[j]?=some t→vs[j]?=some v→aiC P W .any base t v)→∃xs,OJ shs xs∧fC W (·<W.heap.size) (fun _=>none) i ks xs vs
 | [],[],[],[],_,_,_,_,_,_=>⟨[],trivial,trivial⟩
 | [],[],[],_::_,[],_,_,_,h,_=>h.elim
 | [],[],[],_::_,_::_,_,_,_,h,_=>h.elim
 | sh::shs,t::ts,k::ks,[],[],_,_,_,h,_=>h.elim
 | sh::shs,t::ts,k::ks,[],_::_,_,_,_,h,_=>h.elim
 | sh::shs,t::ts,k::ks,_::_,[],_,_,_,h,_=>h.elim
 | sh::shs,t::ts,k::ks,v::vs,d::ds,ps,i,hok,h,hv=>by
  cases k<;>simp only [Ko,aim] at hok;rename_i lv;simp only [aik,Bool.or_eq_true] at hok;obtain⟨⟨hok1,hlv⟩,hok2⟩:=hok;obtain⟨p,q,h1,h2,rfl⟩:=h;obtain⟨x,g1,g2,g3⟩:=Sh.arg hok1 (hv 0 t v rfl rfl) h1;obtain⟨xs,k1,k2⟩:=aad shs ts ks vs ds q (i+1) hok2 h2 (fun j t v ht hv'=>hv (j+1) t v ht hv');refine⟨x::xs,⟨g1,k1⟩,.inr ?_,k2⟩
  rcases hlv with h' | ⟨h',hf⟩
  ·rw [bd] at h'
   subst h';exact g2
  ·exact vd (g3 hf) g2
 | [],[],_::_,_,_,_,_,hok,_,_=>by simp [Ko] at hok
 | [],_::_,_,_,_,_,_,hok,_,_=>by simp [Ko] at hok
 | _::_,[],_,_,_,_,_,hok,_,_=>by simp [Ko] at hok
 | _::_,_::_,[],_,_,_,_,hok,_,_=>by simp [Ko] at hok
theorem Dh {W':World} (hl:laidOutB P=true):∀(ts:List TypeId) (vs:List Value) (ds:List (DataW H)) (ps:List MemPlace),(ts.all fun t=>P.readableRec t&&decide (t<P.types.size))=true →
  aiv enc P W 0 (fun _=>true) true ts vs ds ps→Below W.heap.size W W'→(∀x∈ps,x.block<W.heap.size)→∀sp:Nat→Bool,(∀x∈ps,sp x.block=true)→aiv enc P W' 0 sp true ts vs ds ps
 | [],[],[],_,_,h,_,_,_,_=>h
 | [],_::_,[],_,_,h,_,_,_,_=>h.elim
 | [],[],_::_,_,_,h,_,_,_,_=>h.elim
 | [],_::_,_::_,_,_,h,_,_,_,_=>h.elim
 | _::_,[],[],_,_,h,_,_,_,_=>h.elim
 | _::_,[],_::_,_,_,h,_,_,_,_=>h.elim
 | _::_,_::_,[],_,_,h,_,_,_,_=>h.elim
 | t::ts,v::vs,d::ds,ps,hr,h,hb,hlt,sp,hsp=>by
  obtain⟨p,q,h1,h2,rfl⟩:=h;simp only [List.all_cons,aik,decide_eq_true_eq] at hr;refine⟨p,q,?_,Dh hl ts vs ds q hr.2 h2 hb (fun x hx=>hlt x (by simp [hx])) sp (fun x hx=>hsp x (by simp [hx])),rfl⟩
  exact WideElems.Trod_stays hl hr.1.1 hr.1.2 h1 (fun x hx=>hb.same (hlt x (by simp [hx]))) (fun x hx=>hsp x (by simp [hx]))
end
section
variable {H:Type} {enc:TypeId × Value→H} {P:Program}
theorem Qc {f:Func} {s:ChangeSpec} {apart fresh handsOn again:Bool} {W W':World} {args:Array Value} {v:Value} {ds gs:List (DataW H)} {before pa pv:List MemPlace}
  (hW:DataW.Whole enc P f.params.toList s.vars apart W args.toList ds gs before)
  (hres:∀(b:Nat) (sp:Nat→Bool) (hd:Bool),aiv enc P W' b sp hd f.resultTypes.toList (v.resultList f.resultTypes.size) (s.fn H (ds++gs)).results [])
  (hargs:∀sp:Nat→Bool,(∀p∈before,sp p.block=true)→aiv enc P W' 0 sp true f.params.toList args.toList (s.fn H (ds++gs)).args pa)
  (hvars:∀sp:Nat→Bool,(∀p∈before,sp p.block=true)→DataW.TrodVars enc P W' sp s.vars (s.fn H (ds++gs)).vars pv)
  (hps:before=pa++pv) (hb:Below W.heap.size W W')
  (hok:∀(j:Nat) (t:TypeId) (r:Value),f.resultTypes[j]?=some t→(v.resultList f.resultTypes.size)[j]?=some r→aiC P W' .any 0 t r) :
  s.post enc P f apart fresh handsOn again W args v W':=by
 have hlt:∀p∈before,p.block<W.heap.size:=fun p hp=>hW.lt p hp
 have hold:∀p∈before,(fun b=>decide (b<W.heap.size)) p.block=true:=fun p hp=>by simpa using hlt p hp
 refine⟨ds,gs,before,[],pa,pv,hW,hres _ _ _,hargs _ hold,hvars _ hold,World.keptBut_mono (fun p hp=>⟨hp,?_⟩) (hb.frame (·∈before)),fun _=>?_⟩
 ·rw [hps,ait] at hp
  exact Or.inr hp
 ·obtain⟨_,_,_,_,_,hz,hn⟩:=hW
  refine⟨hok,_,_,([]++pa)++pv,⟨[]++pa,pv,trodAll_append (hargs _ (fun _ _=>rfl)) (hres _ _ _),hvars _ (fun _ _=>rfl),rfl,?_,?_⟩,?_⟩
  ·intro b off hp
   have hin:MemPlace.cell b off∈before:=by rw [hps];simpa using hp
   rw [hb.frozen (hlt _ hin)];exact hz b off hin
  ·intro ha
   have:=hn ha;rw [hps] at this;simpa using this
  ·intro p hp _
   rw [hps];simpa using hp
theorem ME {G:List (Nat × (Obj→Prop))} {f:FuncId} {S:FS} (hm:aw G P f S) {fn:Func} (hf:P.funcs[f]?=some fn) (hname:(fn.name=="runtime.NumGoroutine")=false) (hb:fn.body.isSome=true) {ds rs us:List D} (hd:S.f ds=some (.ret rs us)) {args:Array Value} {w:World} {F:Nat→Prop} {ow:Nat→Option Nat}
  (hgl:gOk G w F) (ha:fC w F ow 0 S.pm ds args.toList) (hF:∀b,F b→b<w.heap.size∧ow b=none) (hO:∀b i,ow b=some i→b<w.heap.size) :
  Calls P f args w fun e w'=>∃v,e = .returned v∧∃F' R vs,v=lf vs∧CallPost S args rs us w F ow F' R vs w':=by
 obtain⟨b,hb⟩:=aiK.1 hb;have h1:¬fn.name="runtime.NumGoroutine":=by simpa using hname
 have hrun:(callFunc f args).run P w = .ok (.enter f args) w:=by simp [callFunc,hf,h1,hb]
 have h2:=hm ds rs us hd args w F ow hgl ha hF hO {(default:Oper) with dst:=some 0} {tmps:=#[undef],defers:=[]} (fun a w'=>∃F' R vs,a.tmps.getD 0 undef=lf vs∧CallPost S args rs us w F ow F' R vs w') (fun _ _ _=>False) (fun v w' h=>by
  obtain⟨F',R,vs,rfl,h⟩:=h;exact⟨F',R,vs,by simp [ai0],h⟩)
 rw [hrun,aiA] at h2;refine aiI h2 fun e w' he=>?_
 cases e with
 | returned v =>
  obtain⟨F',R,vs,h3,h4⟩:=he;exact⟨v,rfl,F',R,vs,by simpa [ai0] using h3,h4⟩
 | panicked c=>exact he.elim
 | outgrown=>obtain⟨_,_,h⟩:=he;exact h.elim
theorem Vn {G:List (Nat × (Obj→Prop))} {f:FuncId} {S:FS} (hm:aw G P f S) {fn:Func} (hf:P.funcs[f]?=some fn) (hname:(fn.name=="runtime.NumGoroutine")=false) (hbd:fn.body.isSome=true) (shs:List Sh) {rt:TypeId}
  (hl:laidOutB P=true) (hsh:Ko P shs fn.params.toList S.pm=true) (hrd:(fn.params.toList.all fun t=>P.readableRec t&&decide (t<P.types.size))=true)
  (hrm:S.rm=[.dat 0]) (hrt:fn.resultTypes=#[rt]) (hbool:P.underlying rt=some .bool)
  (hd:∀ds,OJ shs ds→S.f ds=some (.ret [B true] [])) {s:ChangeSpec} (hvars:s.vars=[])
  (hs:∀ds:List (DataW H),ds.length=fn.params.size→s.fn H (ds++[])={results:=[.lit (.bool true)],args:=ds})
  {W:World} {base:Nat} {args:Array Value} {ds gs:List (DataW H)} {before:List MemPlace}
  (hval:∀(j:Nat) t v,fn.params[j]?=some t→args[j]?=some v→aiC P W .any base t v) (hW:DataW.Whole enc P fn.params.toList s.vars false W args.toList ds gs before) (hgl:gOk G W fun b=>b<W.heap.size) {fresh handsOn again:Bool} :
  Calls P f args W fun e W'=>∃v,e = .returned v∧s.post enc P fn false fresh handsOn again W args v W':=by
 have hW':=hW;have hlt:∀p∈before,p.block<W.heap.size:=fun p hp=>hW.lt p hp
 obtain⟨p,q,hA,hV,rfl,hfz,hnd⟩:=hW;rw [hvars] at hV;have hgs:gs=[]∧q=[]:=by
  cases gs with
  | nil=>exact⟨rfl,hV⟩
  | cons _ _=>exact hV.elim
 obtain⟨rfl,rfl⟩:=hgs;obtain⟨xs,h1,h2⟩:=aad (base:=base) shs fn.params.toList S.pm args.toList ds p 0 hsh hA (fun j t v ht hv=>hval j t v (by simpa using ht) (by simpa using hv));refine aiI (ME hm hf hname hbd (hd xs h1) hgl h2 (fun b hb=>⟨hb,rfl⟩) (fun b i hi=>by cases hi)) fun e W' he=>?_
 obtain⟨v,rfl,F',R,vs,rfl,hp⟩:=he;refine⟨_,rfl,?_⟩
 have hlen:ds.length=fn.params.size:=by
  have:∀(ts:List TypeId) (vs:List Value) (ds:List (DataW H)) (ps:List MemPlace),aiv enc P W 0 (fun _=>true) true ts vs ds ps→ds.length=ts.length:=by
   intro ts;induction ts with
   | nil =>
    intro vs ds ps h;cases ds with
    | nil=>rfl
    | cons _ _=>cases vs<;>exact h.elim
   | cons t ts ih =>
    intro vs ds ps h;cases vs with
    | nil=>exact h.elim
    | cons v vs =>
     cases ds with
     | nil=>exact h.elim
     | cons d ds =>
      obtain⟨_,_,_,h2,_⟩:=h;simp [ih _ _ _ h2]
  simpa using this _ _ _ _ hA
 have hB:Below W.heap.size W W':=⟨hp.os,hp.tape,hp.output,hp.size,fun b hb=>hp.keep b hb rfl⟩
 have hres:lf vs = .bool true:=by
  have hl1:=hp.len;rw [hrm] at hl1
  match vs,hl1 with
  | [y],_ =>
   have h0:=hp.res 0;rw [hrm] at h0;simp only [aD,nth,aiS] at h0;rcases h0 with h0 | h0
   ·cases h0
   ·exact(ce.1 h0).1
 rw [hres];have hsd:=hs ds hlen;refine Qc (pa:=p) (pv:=[]) hW' (fun b sp hd'=>?_) (fun sp hsp=>?_) (fun sp _=>?_) rfl hB ?_
 ·rw [hsd,hrt]
  exact trodAll_mk1 (shut_bool hbool true)
 ·rw [hsd]
  exact Dh hl _ _ _ _ hrd hA hB (fun x hx=>hlt x (by simp [hx])) sp (fun x hx=>hsp x (by simp [hx]))
 ·rw [hsd,hvars]
  rfl
 ·exact ok_one hrt rfl (okWide_bool_mk hbool true)
end
end Go.V

namespace Go.Proofs.YtjafgdefcggjcaaGreatDoor
open Go Go.V Go.RowKit Go.WideShapes Go.ChangeShapes
set_option maxRecDepth 100000
theorem own:ownKnob Tryz.prog.godebug=none:=by kernel_rfl
theorem Zh:laidOutB Tryz.prog=true:=by kernel_rfl
theorem wX {w:World} {g:Nat} {p:Obj→Prop} (h:∃o,w.heap[g]?=some o∧p o):g<w.heap.size∧∃o,w.heap[g]?=some o∧p o:=by
 obtain⟨o,ho,hp⟩:=h;exact⟨(aiF.1 ho).1,o,ho,hp⟩
theorem ahf {W:World} (hsh:W.ShapedOpen Tryz.prog):gOk gl0 W fun b=>b<W.heap.size:=by
 intro p hp;simp only [gl0,aiR,aiL,or_false] at hp;subst hp;obtain⟨m,hm⟩:=Go.Proofs.cell_of_shapedOpen_int (g:=0) (zero:=#[.int .i64 0]) (t:=3) hsh (of_decide_eq_true (by kernel_rfl)) (by kernel_rfl) rfl (by kernel_rfl) (by kernel_rfl) Tryz.underlying3;exact wX (ab0 hm)
theorem ahu:Tryz.prog.globalNamed "internal/strconv.uint64pow10"=some 5:=by kernel_rfl
theorem ab6 {W:World} {rest:List (String × DataW Unit)} (h:laidMet Tryz.prog (("internal/strconv.uint64pow10",Rows.laid_internal_strconv_uint64pow10)::rest) W):ai5 Tryz.prog W "internal/strconv.uint64pow10" .u64 aiU :=
 Lib.tabIs_of_head (rest:=rest) ahu (by kernel_rfl) Tryz.underlying230 Tryz.underlying79 (by kernel_rfl) (by kernel_rfl) h
theorem af9 {W:World} (hsh:W.ShapedOpen Tryz.prog) (hp:ai5 Tryz.prog W "internal/strconv.uint64pow10" .u64 aiU):gOk gl1 W fun b=>b<W.heap.size:=by
 intro p hq;rcases ait.1 hq with hq | hq
 ·exact ahf hsh p hq
 ·simp only [aiR,aiL,or_false] at hq
  subst hq;exact wX (Xw ahu hp)
theorem gES:Tryz.prog.globalNamed "strconv.ErrSyntax"=some 1:=by kernel_rfl
theorem gER:Tryz.prog.globalNamed "strconv.ErrRange"=some 2:=by kernel_rfl
theorem ahJ:"*"++"errors.errorString"="*errors.errorString":=by decide
theorem Zo (u:TypeId) (h:Tryz.prog.typeName? 3 u=some "*errors.errorString"):u=226 :=
 typeName_ptr_named (nm:="errors.errorString") (by rw [ahJ];kernel_rfl) (by kernel_rfl) (by decide) u (by rw [ahJ];exact h)
theorem afW {W:World} {rest:List (String × DataW Unit)} (h:laidMet Tryz.prog (("strconv.ErrSyntax",Rows.laid_strconv_ErrSyntax)::rest) W):∃tp p,W.var? Tryz.prog "strconv.ErrSyntax"=some #[.iface tp p]:=by
 obtain⟨a0,s0,hv0,-,-,-⟩:=laid_sentinel h gES (by kernel_rfl) Tryz.underlying69 Zo Tryz.underlying226 Tryz.underlying228 rfl rfl Tryz.underlying9 (by kernel_rfl) (by kernel_rfl);exact⟨_,_,hv0⟩
theorem afN {W:World} {rest:List (String × DataW Unit)} (h:laidMet Tryz.prog (("strconv.ErrRange",Rows.laid_strconv_ErrRange)::rest) W):∃tp p,W.var? Tryz.prog "strconv.ErrRange"=some #[.iface tp p]:=by
 obtain⟨a0,s0,hv0,-,-,-⟩:=laid_sentinel h gER (by kernel_rfl) Tryz.underlying69 Zo Tryz.underlying226 Tryz.underlying228 rfl rfl Tryz.underlying9 (by kernel_rfl) (by kernel_rfl);exact⟨_,_,hv0⟩
theorem acp {W:World} (hsh:W.ShapedOpen Tryz.prog) (hp:ai5 Tryz.prog W "internal/strconv.uint64pow10" .u64 aiU) (hs:∃tp p,W.var? Tryz.prog "strconv.ErrSyntax"=some #[.iface tp p]) (hr:∃tp p,W.var? Tryz.prog "strconv.ErrRange"=some #[.iface tp p]) :
  gOk gl2 W fun b=>b<W.heap.size:=by
 intro p hq;rcases ait.1 hq with hq | hq
 ·exact af9 hsh hp p hq
 ·simp only [aiR,aiL,or_false] at hq
  obtain⟨_,_,hs⟩:=hs;obtain⟨_,_,hr⟩:=hr;rcases hq with rfl | rfl
  ·exact wX (VV gES hs)
  ·exact wX (VV gER hr)
end Go.Proofs.YtjafgdefcggjcaaGreatDoor

namespace Go.Proofs.YtjafgdefcggjcaaGreatDoor
open Go
theorem mr {a b:Bool} (h:a=true) (g:b=true):(a&&b)=true:=by rw [h,g];rfl
theorem Sa {P:Program} {f:FuncId} {fn:Func} {s:ChangeSpec} {c:OpenClaim}
  (k1:(c.wf (OpenSpec.ofChange s))=true)
  (k2:(laidOutB P)=true)
  (k3:(mapsRowed P)=true)
  (k4:(fn.params.all (P.readableRec ·))=true)
  (k5:(namedTie P c.named s.vars)=true)
  (k6:((c.stops==[]))=true)
  (k7:((P.stops==[]))=true)
  (k8:((c.knobs==[]))=true)
  (k9:((P.stopKnobs==[]))=true)
  (k10:((c.inPlace==P.inPlace f))=true)
  (k11:((c.unfollowed==P.unfollowed f))=true)
  (k12:((c.recurses==P.recurses f))=true)
  (k13:((c.named==P.varsNamed f))=true)
  (k14:((c.maps==(fn.params.toList++s.plain.varTypes P).any (P.mapsRec ·)))=true)
  (k15:((c.ifaces==(fn.params.toList++s.plain.varTypes P).any (P.ifacesRec ·)))=true)
  (k16:((c.mapsOut==P.mapsAmong fn.resultTypes.toList))=true)
  (k17:((c.loops==(fn.params.toList++s.plain.varTypes P).any (P.loopsFrom ·)))=true)
  (k17b:((c.wideKeys==(fn.params.toList++s.plain.varTypes P++fn.resultTypes.toList).any (P.wideKeysFrom ·)))=true)
  (k18:(s.vars.all (P.varReadable ·))=true)
  (k19:(fn.resultTypes.all (fun t=>P.readableRec t&&decide (t<P.types.size)))=true)
  (k20:((c.ifacesOut==fn.resultTypes.toList.any (P.ifacesRec ·)))=true)
  (k21:((c.loopsOut==fn.resultTypes.toList.any (P.loopsFrom ·)))=true)
  (k22:((c.plainKeys==P.plainKeys))=true)
  (k23:(c.shortTexts.isNone)=true)
  (k23b:(P.stopsHeard)=true)
  (k24:(P.mayEnter)=true)
  (k24b:((c.lifted==P.liftsFinal))=true)
  (k24c:((P.make==some c.make))=true)
  (k25:((c.kinds==(if c.domain.isEmpty then [] else fn.params.toList.map fun t=>match P.underlying t with | some (.int k)=>some k | _=>none)))=true)
  (k26:((c.pinned==c.pinnedBy))=true)
  (k27:((c.veiled==(fn.params.toList++s.plain.varTypes P++fn.resultTypes.toList).any (P.veiledRec ·)))=true)
  (k28:(c.veiledFits P fn.params.toList (fn.params.toList++s.plain.varTypes P++fn.resultTypes.toList))=true):joinedFacts P f fn s c=true :=
 mr (mr (mr (mr (mr (mr (mr (mr (mr (mr (mr (mr (mr (mr (mr (mr (mr (mr (mr (mr (mr (mr (mr (mr (mr (mr (mr (mr (mr (mr (mr k1 k2) k3) k4) k5) k6) k7) k8) k9) k10) k11) k12) k13) k14) k15) k16) k17) k17b) k18) k19) k20) k21) k22) k23) k23b) k24) k24b) k24c) k25) k26) k27) k28
end Go.Proofs.YtjafgdefcggjcaaGreatDoor

namespace Go.Proofs.YtjafgdefcggjcaaGreatDoor
open Go.V
set_option maxRecDepth 100000
theorem dD:Tryz.prog.follows .mixedOrders=true:=by kernel_rfl
theorem az {c:Cx} {S:FS} {f:FuncId} {fn:Func} (hS:∀f S,eo c.S f=some S→aw c.G Tryz.prog f S) (hf:Tryz.prog.funcs[f]?=some fn) (hres:c.res=fn.results.toList) (hF:S.f=ba c fn)
  (hb:(okT Tryz.prog c.T&&(!(fn.name=="runtime.NumGoroutine")&&Xz c fn S.pm S.rm))=true):aw c.G Tryz.prog f S:=by
 obtain⟨pm,rm,g⟩:=S;cases hF;simp only [aik,Bool.not_eq_true'] at hb;exact Vr hb.1 hS dD hf hb.2.1 hb.2.2 hres
@[reducible] def ty3:TI:={n:=1,zero:=[.v (.int .i64 0)],ik:=some .i64}
@[reducible] def ty9:TI:={n:=1,zero:=[.v (.string ⟨#[]⟩)],str:=true}
@[reducible] def aie:TI:={n:=1,zero:=[.v (.int .i32 0)],ik:=some .i32}
@[reducible] def dJ:TI:={n:=1,zero:=[.arr 1 []],elem:=3,ez:=1,eb:=8}
@[reducible] def EU:TI:={n:=1,zero:=[.arr 1 []],elem:=9,ez:=1,eb:=16}
@[reducible] def kp:TI:={agg:=true,n:=3,zero:=[.v (.int .i64 0),.v (.int .i64 0),.v (.int .i64 0)],fs:=[(0,3),(1,3),(2,3)],eq:=[1,1,1]}
@[reducible] def rZ:Cx:={K:=[Y,.no,Y,Y,Y,Y,Y,Y,Y],T:=[(21,aie)],S:=[],H:=[],res:=[.tmp 2],ios:=[],G:=gl0}
def jb:List D→Option Out:=ba rZ Tryz.f132
@[reducible] def EJ:FS:={pm:=[Y],rm:=[Y],f:=jb}
theorem Ft:aw gl0 Tryz.prog 132 EJ:=az (c:=rZ) al Tryz.func132 rfl rfl (by kernel_rfl)
@[reducible] def Kp:Cx:={K:=[Yc,Y,.no,.no,Y,Yo 1 0,.no,Y,Yo 1 0,Yc,Y,Y,Y,Yc,Y,Yo 1 0,Y,Y,Yb,Yo 1 0,Y,.via 5,Y,Y],T:=[(3,ty3),(9,ty9),(38,dJ),(62,EU)],S:=[(117,sq),(183,Bc)],H:=[(0,([1,5,9,10,11],[1,5]))],res:=[.tmp 4],ios:=[],G:=gl1}
def dg:List D→Option Out:=ba Kp Tryz.f134
@[reducible] def pG:FS:={pm:=[Yc,Y],rm:=[Y],f:=dg}
theorem pE:aw gl1 Tryz.prog 134 pG:=az (c:=Kp) (ab rW (ab (aN JL MX) al)) Tryz.func134 rfl rfl (by kernel_rfl)
@[reducible] def xT:Cx:={K:=[Y,Y,.box 3 0 false,.no,Y,Yr 2,Y,Yr 2,Y,Yr 2,Y,Y,Yb,Y,Y],T:=[(3,ty3),(9,ty9),(38,dJ),(121,kp)],S:=[(134,pG)],H:=[],res:=[.tmp 4],ios:=[],G:=gl1}
def jl:List D→Option Out:=ba xT Tryz.f88
@[reducible] def yB:FS:={pm:=[Y,Y],rm:=[Y],f:=jl}
theorem yj:aw gl1 Tryz.prog 88 yB:=az (c:=xT) (ab pE al) Tryz.func88 rfl rfl (by kernel_rfl)
@[reducible] def HC:Cx:={K:=[Y,Y,.no,.box 3 0 false,Y,Y,Y,Yr 3,Y,Y,Y,Yr 3,Y,Y,Y,Yr 3,Y,Y,Y],T:=[(3,ty3),(121,kp)],S:=[],H:=[],res:=[.tmp 4],ios:=[],G:=gl0}
def kT:List D→Option Out:=ba HC Tryz.f89
@[reducible] def HS:FS:={pm:=[Y,Y],rm:=[Y],f:=kT}
theorem HB:aw gl0 Tryz.prog 89 HS:=az (c:=HC) al Tryz.func89 rfl rfl (by kernel_rfl)
@[reducible] def Dc:Cx:={K:=[Y,Y,Y,.no,.no,.no,Y,Y,Y,Y,Y,Y,Y,Y,Y],T:=[(3,ty3)],S:=[],H:=[],res:=[.tmp 6],ios:=[],G:=gl0}
def bX:List D→Option Out:=ba Dc Tryz.f52
@[reducible] def dM:FS:={pm:=[Y,Y,Y],rm:=[Y],f:=bX}
theorem dC:aw gl0 Tryz.prog 52 dM:=az (c:=Dc) al Tryz.func52 rfl rfl (by kernel_rfl)
open Go Go.V
theorem Fc (x0:D):jb [x0]=((bin .lss false [] x0 (.v (Value.int IntKind.i32 48))).bind fun z=>(aj (.tup []) z false (some x0)).bind fun c=>(aj (.tup []) z false (bin .gtr false [] c (.v (Value.int IntKind.i32 57)))).bind fun d=>(aV z (B true) d).bind fun z=>some (.ret [z] [])):=by kernel_rfl
theorem zG (x0 x1:D):dg [x0,x1]=((aB 1 []).bind fun a=>(lenD false x0).bind fun z=>(aZ (fun s=>(bin .lss false [] (sl s 4) (sl s 3)).bind fun z=>ifD z ((Option.map D.ptr (ao 1 (sl s 2) (sl s 4))).bind fun z=>((ldD false 1 z).bind aL).bind fun z=>ae (KJ [z]) fun c _=>(aB 1 [sl c 0]).bind fun a=>(cT a).bind fun b=>(bC 1 16 (sl s 1) b).bind fun y=>(bin .add false [] (sl s 4) (I 1)).bind fun z=>some (.nrm [sl s 0,y,sl s 2,sl s 3,z])) (some (.ext 0 [sl s 0,sl s 1]))) [x1,a,x0,z,I 0]).bind fun o=>bS o (fun i s=>ifN (i.beq 0) ((aa (sl s 1) (.ref 0 0)).bind fun z=>(aa z (sl s 1)).bind fun i=>ae (Ez [i,sl s 0]) fun c _=>some (.ret [sl c 0] [])) none) fun a b=>some (.ret a b)):=by kernel_rfl
theorem LM (x0 x1:D):jl [x0,x1]=((gq 3 x0).bind fun y=>(aa y (.ref 0 0)).bind fun z=>((atD y z).bind (an false 1)).bind fun z=>(aa y (.ref 0 1)).bind fun c=>((atD y c).bind (an false 1)).bind fun d=>(aa y (.ref 0 2)).bind fun e=>((atD y e).bind (an false 1)).bind fun f=>(aB 1 [z,d,f,x1]).bind fun a=>ae (dg [a,.v (.string ⟨⟨[32]⟩⟩)]) fun g _=>(bin .add false [] (sl g 0) (.v (.string ⟨⟨[10]⟩⟩))).bind fun z=>some (.ret [z] [])):=by kernel_rfl
theorem Uu (x0 x1:D):kT [x0,x1]=((gq 3 x1).bind fun y=>(bin .mul false [] (I 31) x0).bind fun z=>(aa y (.ref 0 0)).bind fun c=>((atD y c).bind (an false 1)).bind fun d=>(bin .mul false [] (I 17) d).bind fun e=>(bin .add false [] z e).bind fun z=>(aa y (.ref 0 1)).bind fun f=>((atD y f).bind (an false 1)).bind fun g=>(bin .mul false [] (I 5) g).bind fun h=>(bin .add false [] z h).bind fun z=>(aa y (.ref 0 2)).bind fun j=>((atD y j).bind (an false 1)).bind fun k=>(bin .add false [] z k).bind fun z=>(bin .rem false [] z (I 9973)).bind fun z=>some (.ret [z] [])):=by kernel_rfl
theorem PX (x0 x1 x2:D):bX [x0,x1,x2]=((bin .geq false [] x0 x1).bind fun z=>(aj (.tup []) z true (some x0)).bind fun c=>(aj (.tup []) z true (some x2)).bind fun d=>(aj (.tup []) z true (bin .leq false [] c d)).bind fun e=>(aV z e (B false)).bind fun z=>some (.ret [z] [])):=by kernel_rfl
end Go.Proofs.YtjafgdefcggjcaaGreatDoor

namespace Go.V
section
variable {k:IntKind} {a b:Int} {bl:Bool} {eq:List Nat}
@[simp] theorem bw:bin .add bl eq (.v (.int k a)) (.v (.int k b))=some (.v (.int k (k.wrap (a+b)))):=by simp [bin,my]
@[simp] theorem cr:bin .sub bl eq (.v (.int k a)) (.v (.int k b))=some (.v (.int k (k.wrap (a - b)))):=by simp [bin,my]
@[simp] theorem eI:bin .mul bl eq (.v (.int k a)) (.v (.int k b))=some (.v (.int k (k.wrap (a*b)))):=by simp [bin,my]
@[simp] theorem lO:bin .quo bl eq (.v (.int k a)) (.v (.int k b))=if b=0 then none else some (.v (.int k (k.wrap (a.tdiv b)))):=by simp [bin,my]
@[simp] theorem aaf:bin .rem bl eq (.v (.int k a)) (.v (.int k b))=if b=0 then none else some (.v (.int k (a.tmod b))):=by simp [bin,my]
@[simp] theorem bg:bin .lss bl eq (.v (.int k a)) (.v (.int k b))=some (B (decide (a<b))):=by simp [bin,my]
@[simp] theorem gg:bin .leq bl eq (.v (.int k a)) (.v (.int k b))=some (B (decide (a≤b))):=by simp [bin,my]
@[simp] theorem eY:bin .gtr bl eq (.v (.int k a)) (.v (.int k b))=some (B (decide (b<a))):=by simp [bin,my]
@[simp] theorem jN:bin .geq bl eq (.v (.int k a)) (.v (.int k b))=some (B (decide (b≤a))):=by simp [bin,my]
@[simp] theorem fk:bin .eql bl eq (.v (.int k a)) (.v (.int k b))=some (B (decide (a=b))):=by
 have:(a==b)=decide (a=b):=rfl;simp [bin,my,this]
@[simp] theorem jC:bin .neq bl eq (.v (.int k a)) (.v (.int k b))=some (B (!decide (a=b))):=by
 have:(a != b) = !decide (a=b):=rfl;simp [bin,my,this]
@[simp] theorem ahK {a b:Bool}:bin .eql true eq (B a) (B b)=some (B (a==b)):=by simp [bin]
@[simp] theorem WJ {a b:Bool}:bin .neq true eq (B a) (B b)=some (B !(a==b)):=by simp [bin]
@[simp] theorem fY {a b:ByteArray}:bin .add bl eq (T a) (T b)=if a.size+b.size≤1152921504606846976 then some (T (a++b)) else none:=by simp [bin,JJ]
@[simp] theorem af {a b:ByteArray}:bin .eql bl eq (T a) (T b)=some (B (decide (a=b))):=by
 have:(a.toList==b.toList)=decide (a=b):=by
  rw [Bool.eq_iff_iff,beq_iff_eq,decide_eq_true_eq];constructor
  ·intro h
   have h1:∀s:ByteArray,s.toList=s.data.toList:=fun s=>by simp [ByteArray.toList_eq]
   rw [h1,h1] at h;cases a;cases b;simp at h;simp [h]
  ·rintro rfl;rfl
 simp [bin,JJ,this]
@[simp] theorem ir {a b:ByteArray}:bin .neq bl eq (T a) (T b)=some (B (!decide (a=b))):=by
 have h:=af (a:=a) (b:=b) (bl:=bl) (eq:=eq);simp only [bin,JJ,ail,D.v.injEq,Value.bool.injEq] at h ⊢;rw [h]
@[simp] theorem bn {b:Bool}:un .not (B b)=some (B !b):=rfl
@[simp] theorem SN:un .neg (.v (.int k a))=some (.v (.int k (k.wrap (-a)))):=by simp [un]
theorem ah (h1 : -9223372036854775808≤a) (h2:a<9223372036854775808):aiO.wrap a=a:=by
 simp [IntKind.wrap,IntKind.bits,IntKind.signed];split<;>omega
end
@[simp] theorem aH {c:Bool} {t e:Option Out}:ifD (B c) t e=if c=true then t else e:=by cases c<;>rfl
@[simp] theorem dE {c:Bool} {t e:Option Out}:ifN c t e=if c=true then t else e:=by cases c<;>rfl
@[simp] theorem en {v:D} {c:Bool} {r:Option D}:aj v (B c) true r=if c=true then r else some v:=by cases c<;>rfl
@[simp] theorem bK {v:D} {c:Bool} {r:Option D}:aj v (B c) false r=if c=true then some v else r:=by cases c<;>rfl
@[simp] theorem wE {v:D} {p:Bool} {l:List D} {r:Option D}:aj v (.tup l) p r=some v:=rfl
@[simp] theorem Tp {p:Bool} {l:List D} {r:Option Out} {alt:List D} {k:List D→Option Out}:cU (.tup l) p r alt k=k alt:=rfl
def agP (r:Option Out) (k:List D→Option Out):Option Out :=
 match r with
 | some (.nrm l)=>k l
 | _=>none
@[simp] theorem bz {l:List D} {k:List D→Option Out}:agP (some (.nrm l)) k=k l:=rfl
@[simp] theorem LU {c:Bool} {r:Option Out} {alt:List D} {k:List D→Option Out}:cU (B c) true r alt k=if c=true then agP r k else k alt:=by cases c<;>rfl
@[simp] theorem bZ {c:Bool} {r:Option Out} {alt:List D} {k:List D→Option Out}:cU (B c) false r alt k=if c=true then k alt else agP r k:=by cases c<;>rfl
@[simp] theorem aO {c:Bool} {a b:D}:aV (B c) a b=some (if c=true then a else b):=by cases c<;>rfl
@[simp] theorem am {rs us:List D} {k:List D→List D→Option Out}:ae (some (.ret rs us)) k=k rs us:=rfl
@[simp] theorem bF {i:Nat} {s:List D} {x:Nat→List D→Option Out} {r:List D→List D→Option Out}:bS (.ext i s) x r=x i s:=rfl
@[simp] theorem sI {a b:List D} {x:Nat→List D→Option Out} {r:List D→List D→Option Out}:bS (.ret a b) x r=r a b:=rfl
@[simp] theorem ah7 {v:Value} {x:D}:aa (.v v) x=some x:=rfl
@[simp] theorem cz {z:Nat} {l:List D} {x:D}:aa (.arr z l) x=some x:=rfl
@[simp] theorem cy {l:List D} {x:D}:aa (.agg l) x=some x:=rfl
@[simp] theorem ck {i f:Nat} {x:D}:aa (.ref i f) x=some x:=rfl
@[simp] theorem ahk {l:List D} {x:D}:aa (.tup l) x=some x:=rfl
@[simp] theorem aK {z:Nat} {l:List D}:lenD false (.arr z l)=some (I l.length):=rfl
@[simp] theorem dZ {s:ByteArray}:lenD true (T s)=some (I s.size):=rfl
@[simp] theorem ak {a:D} {l:List D}:sl (a::l) 0=a:=rfl
@[simp] theorem aF {a:D} {l:List D} {n:Nat}:sl (a::l) (n+1)=sl l n:=rfl
@[simp] theorem ahG {ag:Bool} {n off:Nat} {l:List D}:bh ag n off (.agg l)=an ag n (l.drop off):=rfl
@[simp] theorem bk {ag:Bool} {n:Nat} {l:List D}:ldD ag n (.ptr l)=an ag n l:=rfl
@[simp] theorem ej {off:Nat} {l:List D}:jY off (.ptr l)=some (.ptr (l.drop off)):=rfl
@[simp] theorem ah4 {n:Nat} {l:List D}:an true n l=if n≤l.length then some (.agg (l.take n)) else none:=rfl
@[simp] theorem aP {n:Nat} {a:D} {l:List D}:an false n (a::l)=some a:=rfl
@[simp] theorem fi {l:List D} {i f:Nat}:atD (.agg l) (.ref i f)=some (l.drop f):=rfl
@[simp] theorem ah5 {z:Nat} {l:List D} {i f:Nat}:atD (.arr z l) (.ref i f)=(l[i]?).map fun d=>d.cells.drop f:=rfl
@[simp] theorem mf {off i f:Nat}:aR off (.ref i f)=some (.ref i (f+off)):=rfl
@[simp] theorem oE {z:Nat} {l:List D} {k:IntKind} {i:Nat}:ao z (.arr z l) (.v (.int k (i:Int)))=(l[i]?).map D.cells:=by simp [ao]
@[simp] theorem lu {z:Nat} {l:List D} {k:IntKind} {i:Nat}:fd z (.arr z l) (.v (.int k (i:Int)))=if i<l.length then some (.ref i 0) else none:=by simp [fd]
@[simp] theorem afM {l:List D}:(D.agg l).cells=l:=rfl
@[simp] theorem ahi {v:Value}:(D.v v).cells=[.v v]:=rfl
@[simp] theorem afK {z:Nat} {l:List D}:(D.arr z l).cells=[.arr z l]:=rfl
@[simp] theorem bD {v:Value}:aL (.v v)=some (.v v):=rfl
@[simp] theorem ahM {l:List D}:aL (.agg l)=if l.all TZ=true then some (.agg l) else none:=by
 have:(D.agg l).isV=l.all TZ:=by
  simp only [D.isV];congr 1
 simp [aL,this]
@[simp] theorem aic {v:Value}:TZ (.v v)=true:=rfl
@[simp] theorem ah3 {z:Nat} {l:List D}:TZ (.arr z l)=false:=rfl
@[simp] theorem ahS {v:Value}:(D.v v).single=true:=rfl
@[simp] theorem agq {z:Nat} {l:List D}:(D.arr z l).single=true:=rfl
@[simp] theorem ahj {l:List D}:(D.agg l).width=l.length:=rfl
@[simp] theorem ah6 {v:Value}:(D.v v).width=1:=rfl
@[simp] theorem ahm {z:Nat} {l:List D}:(D.arr z l).width=1:=rfl
@[simp] theorem ah9 {n:Nat} {x:D}:gq n x=if x.cells.length=n∧x.cells.all D.single=true then some (.agg x.cells) else none:=rfl
@[simp] theorem ah8 {n i f:Nat} {l:List D} {x:D}:stD n (.agg l) (.ref i f) x=if x.cells.length=n∧f+n≤l.length∧x.cells.all D.single=true then some (.agg (putCells l f x.cells)) else none:=rfl
@[simp] theorem af3 {l:List D} {f:Nat} {vs:List D}:putCells l f vs=l.take f++vs++l.drop (f+vs.length):=rfl
@[simp] theorem ahl {l:List D} {i:Nat}:ax (.tup l) i=match l[i]? with
  | some .bad=>none
  | some (.tup _)=>none
  | r=>r:=rfl
@[simp] theorem agd {l:List D} {i:Nat}:fe (.tup l) i = .tup (l.set i .bad):=rfl
@[simp] theorem LX {x:D}:cP (.ref 0 0) x=some x:=rfl
@[simp] theorem hD {z eb:Nat} {l m:List D}:bC z eb (.arr z l) (.arr z m)=if (l.length+m.length)*eb≤140737488355328∧l.length+m.length≤1152921504606846976 then some (.arr z (l++m)) else none:=by simp [bC]
@[simp] theorem agC {z:Nat} {l:List D} {k:IntKind} {i:Nat}:ao z (.arr z l) (.v (.int k ((i:Int)+1)))=(l[i+1]?).map D.cells:=oE (i:=i+1)
@[simp] theorem agY {z:Nat} {l:List D} {k:IntKind}:ao z (.arr z l) (.v (.int k 0))=(l[0]?).map D.cells:=oE (i:=0)
@[simp] theorem acb {z eb:Nat} {x:D} {k k':IntKind} {n m:Nat}:Nm z eb x (.v (.int k (n:Int))) (.v (.int k' (m:Int)))=if n≤m∧m*eb≤140737488355328∧m≤140737488355328 then some (.arr z (ai2 n x)) else none:=by
 have h:((n:Int)≤m∧(m:Int)*(eb:Int)≤140737488355328∧(m:Int)≤140737488355328)↔(n≤m∧m*eb≤140737488355328∧m≤140737488355328):=by
  rw [←Int.natCast_mul];omega
 simp only [Nm,Int.natCast_nonneg,true_and,h,aiH]
theorem abY {z i:Nat} {L:List D} {v w:Value} (h:L[i]?=some (.v w)):stD 1 (.arr z L) (.ref i 0) (.v v)=some (.arr z (L.set i (.v v))):=by
 simp [stD,h,D.ofCells]
def af4 {β:Type} (f:β→D) (z:D) (l:List β) (i:Nat):List D:=(l.take i).map f++ai2 (l.length - i) z
section
variable {β:Type} {f:β→D} {z:D} {l:List β} {i:Nat}
@[simp] theorem aeP (h:i≤l.length):(af4 f z l i).length=l.length:=by simp [af4];omega
end
theorem adu {z i f:Nat} {L c:List D} {v:Value} (h:L[i]?=some (.agg c)) (hf:f<c.length):stD 1 (.arr z L) (.ref i f) (.v v)=some (.arr z (L.set i (.agg (putCells c f [.v v])))):=by
 have h2:(D.v v).cells=[.v v]:=rfl;have h3:f+1≤c.length:=hf;simp [stD,h,h2,h3,D.ofCells]
def af0 {β:Type} (g:Nat→D) (f:β→D) (l:List β) (i:Nat):List D:=(List.range i).map g++(l.drop i).map f
section
variable {β:Type} {g:Nat→D} {f:β→D} {l:List β} {i:Nat}
@[simp] theorem aeM (h:i≤l.length):(af0 g f l i).length=l.length:=by simp [af0];omega
end
theorem bf {z:Nat}:aB z []=some (.arr z []):=rfl
@[simp] theorem sr {β:Type} {z:Nat} {l:List β} {f:β→D} (h:∀x,(f x).isV=true):cT (.arr z (l.map f))=some (.arr z (l.map f)):=by
 have:(l.map f).all D.isV=true:=by simp [h]
 simp only [cT,this,if_true]
theorem mn {z i j:Nat} {l:List D} {k k':IntKind} (h1:i≤j) (h2:j≤l.length):dl false z (.arr z l) (.v (.int k (i:Int))) (.v (.int k' (j:Int)))=some (.arr z ((l.take j).drop i)):=by
 simp only [dl,aiH,true_and];rw [if_pos];omega
theorem mQ {z i:Nat} {l:List D} {k:IntKind} (h:i≤l.length):cQ false z (.arr z l) (.v (.int k (i:Int)))=some (.arr z (l.drop i)):=by
 simp only [cQ,aiH,true_and];rw [if_pos];omega
theorem aci {a b:Int}:aiO.wrap (a+aiO.wrap (-b))=aiO.wrap (a - b):=by
 simp only [IntKind.wrap_i64];omega
@[simp] theorem aij {p:Prop} [Decidable p] {a b:Bool}:(if p then D.v (.bool a) else D.v (.bool b))=D.v (.bool (if p then a else b)):=by split<;>rfl
theorem IV {body:List D→Option Out}:∀(n:Nat) (s:List D) (o:Out),iter body n s=some o→∀m,n≤m→iter body m s=some o
 | 0,_,_,h,_,_=>by simp [iter] at h
 | n+1,s,o,h,m,hm=>by
  obtain⟨m,rfl⟩:∃q,m=q+1:=⟨m - 1,by omega⟩
  simp only [iter] at h ⊢;split at h
  ·rename_i s' hb
   exact IV n s' o h m (by omega)
  ·exact h
theorem acN {body:List D→Option Out} {s:List D} {o:Out} (n:Nat) (h:iter body n s=some o):aZ body s=some o:=by
 have hex:∃n,(iter body n s).isSome=true:=⟨n,by rw [h];rfl⟩
 unfold aZ;rw [dif_pos hex];obtain⟨o',ho⟩:=aiK.1 (Classical.choose_spec hex);rw [ho];have h1:=IV _ _ _ ho (max n (aiz hex)) (by omega);have h2:=IV _ _ _ h (max n (aiz hex)) (by omega);rw [h1] at h2;exact h2
inductive Runs (body:List D→Option Out):List D→Out→Prop where
 | ext {s:List D} {i:Nat} {δ:List D}:body s=some (.ext i δ)→Runs body s (.ext i δ)
 | ret {s:List D} {rs us:List D}:body s=some (.ret rs us)→Runs body s (.ret rs us)
 | nrm {s s':List D} {o:Out}:body s=some (.nrm s')→Runs body s' o→Runs body s o
theorem Runs.iter {body:List D→Option Out} {s:List D} {o:Out} (h:Runs body s o):∃n,V.iter body n s=some o:=by
 induction h with
 | ext h=>exact⟨1,by simp [V.iter,h]⟩
 | ret h=>exact⟨1,by simp [V.iter,h]⟩
 | nrm h _ ih =>
  obtain⟨n,hn⟩:=ih;exact⟨n+1,by simp [V.iter,h,hn]⟩
theorem Runs.loop {body:List D→Option Out} {s:List D} {o:Out} (h:Runs body s o):aZ body s=some o:=by
 obtain⟨n,hn⟩:=h.iter;exact acN n hn
def goL {α β:Type} (g:Nat→β→α→α ⊕ Out) (fin:α→Out):Nat→List β→α→Out
 | _,[],a=>fin a
 | i,x::l,a=>match g i x a with
  | .inl a'=>goL g fin (i+1) l a'
  | .inr o=>o
def Out.ends:Out→Bool
 | .nrm _=>false
 | _=>true
theorem Runs.one {body:List D→Option Out} {s:List D} {o:Out} (h:body s=some o) (ho:o.ends=true):Runs body s o:=by
 cases o with
 | nrm _=>simp [Out.ends] at ho
 | ext _ _=>exact .ext h
 | ret _ _=>exact .ret h
theorem Runs.list {α β:Type} {body:List D→Option Out} (l:List β) (st:Nat→α→List D) (Inv:Nat→α→Prop) (g:Nat→β→α→α ⊕ Out) (fin:α→Out)
  (hs:∀i x a,l[i]?=some x→Inv i a→match g i x a with
   | .inl a'=>body (st i a)=some (.nrm (st (i+1) a'))∧Inv (i+1) a'
   | .inr o=>body (st i a)=some o∧o.ends=true)
  (he:∀a,Inv l.length a→body (st l.length a)=some (fin a)∧(fin a).ends=true) (a:α) (h0:Inv 0 a):Runs body (st 0 a) (goL g fin 0 l a):=by
 have key:∀(n i:Nat) (a:α),i+n=l.length→Inv i a→Runs body (st i a) (goL g fin i (l.drop i) a):=by
  intro n;induction n with
  | zero =>
   intro i a hi hI;have:i=l.length:=by omega
   subst this;rw [List.drop_length];exact Runs.one (he a hI).1 (he a hI).2
  | succ n ih =>
   intro i a hi hI;have hlt:i<l.length:=by omega
   rw [List.drop_eq_getElem_cons hlt];have h:=hs i l[i] a (air hlt) hI;simp only [goL];split at h
   ·exact .nrm h.1 (ih (i+1) _ (by omega) h.2)
   ·exact Runs.one h.1 h.2
 simpa using key l.length 0 a (by omega) h0
theorem Bs {α β:Type} {body:List D→Option Out} (l:List β) (st:Nat→α→List D) (Inv:Nat→α→Prop) (g:Nat→β→α→α ⊕ Out) (fin:α→Out)
  (hs:∀i x a,l[i]?=some x→Inv i a→match g i x a with
   | .inl a'=>body (st i a)=some (.nrm (st (i+1) a'))∧Inv (i+1) a'
   | .inr o=>body (st i a)=some o∧o.ends=true)
  (he:∀a,Inv l.length a→body (st l.length a)=some (fin a)∧(fin a).ends=true) (a:α) (h0:Inv 0 a) {s0:List D} (h:s0=st 0 a):aZ body s0=some (goL g fin 0 l a):=by
 rw [h];exact(Runs.list l st Inv g fin hs he a h0).loop
theorem aY {body:List D→Option Out} (n:Nat) (st:Nat→List D) (o:Out) (hs:∀i,i<n→body (st i)=some (.nrm (st (i+1)))) (he:body (st n)=some o) (ho:o.ends=true) {s0:List D} (h:s0=st 0):aZ body s0=some o:=by
 rw [h];have key:∀(m i:Nat),i+m=n→Runs body (st i) o:=by
  intro m;induction m with
  | zero =>
   intro i hi;have:i=n:=by omega
   subst this;exact Runs.one he ho
  | succ m ih=>exact fun i hi=>.nrm (hs i (by omega)) (ih (i+1) (by omega))
 exact(key n 0 (by omega)).loop
def nK {β:Type} (p:Nat→β→Bool):Nat→List β→Bool
 | _,[]=>true
 | i,x::l=>p i x&&nK p (i+1) l
theorem pX {β:Type} {body:List D→Option Out} (l:List β) (st:Nat→List D) (p:Nat→β→Bool) (o1 o2:Out) (hs:∀(i:Nat) (hi:i<l.length),body (st i)=some (if p i l[i]=true then .nrm (st (i+1)) else o1)) (he:body (st l.length)=some o2)
  (h1:o1.ends=true) (h2:o2.ends=true) {s0:List D} (h:s0=st 0):aZ body s0=some (if nK p 0 l=true then o2 else o1):=by
 have e:∀(m:List β) (i:Nat),goL (fun i x (_:Unit)=>if p i x=true then .inl () else .inr o1) (fun _=>o2) i m ()=if nK p i m=true then o2 else o1:=by
  intro m;induction m with
  | nil=>intro i;simp [goL,nK]
  | cons x m ih =>
   intro i;simp only [goL,nK];by_cases hp:p i x=true
   ·simp [hp,ih]
   ·simp [hp]
 rw [←e];refine Bs l (fun i _=>st i) (fun _ _=>True) _ _ (fun i x a hx _=>?_) (fun _ _=>⟨he,h2⟩) () trivial h
 have hi:i<l.length:=(ain.1 hx).1;have hxe:l[i]=x:=(ain.1 hx).2;have:=hs i hi;rw [hxe] at this;by_cases hp:p i x=true
 ·simpa [hp] using this
 ·simpa [hp,h1] using this
def Eg {α β:Type} (f:Nat→α→β→α):Nat→List β→α→α
 | _,[],a=>a
 | i,x::l,a=>Eg f (i+1) l (f i a x)
theorem Oq {α β:Type} {body:List D→Option Out} (l:List β) (st:Nat→α→List D) (Inv:Nat→α→Prop) (f:Nat→α→β→α) (fin:α→Out) (a:α) (hs:∀(i:Nat) (a:α) (hi:i<l.length),Inv i a→body (st i a)=some (.nrm (st (i+1) (f i a l[i])))∧Inv (i+1) (f i a l[i]))
  (he:∀a,Inv l.length a→body (st l.length a)=some (fin a)) (h1:∀a,(fin a).ends=true) (h0:Inv 0 a) {s0:List D} (h:s0=st 0 a):aZ body s0=some (fin (Eg f 0 l a)):=by
 have e:∀(m:List β) (i:Nat) (a:α),goL (fun i x a=>.inl (f i a x)) fin i m a=fin (Eg f i m a):=by
  intro m;induction m with
  | nil=>intro i a;rfl
  | cons x m ih=>intro i a;simp only [goL,Eg];exact ih (i+1) (f i a x)
 rw [←e l 0 a];refine Bs l st Inv (fun i x a=>.inl (f i a x)) _ (fun i x a hx hI=>?_) (fun a hI=>⟨he a hI,h1 a⟩) a h0 h
 have hi:i<l.length:=(ain.1 hx).1;have hxe:l[i]=x:=(ain.1 hx).2;rw [←hxe];exact hs i a hi hI
theorem aG {body:List D→Option Out} {s0:List D} {K:Out→Option Out} {r:Option Out} (o:Out) (h:aZ body s0=some o) (hk:K o=r):(aZ body s0).bind K=r:=by
 rw [h];exact hk
theorem aeX {α:Type} {body:List D→Option Out} (st:α→List D) (Inv:α→Prop) (μ:α→Nat) (Q:α→Out→Prop)
  (hs:∀a,Inv a→(∃a',body (st a)=some (.nrm (st a'))∧Inv a'∧μ a'<μ a∧∀o,Q a' o→Q a o)∨∃o,body (st a)=some o∧o.ends=true∧Q a o) (a:α) (h:Inv a) {s0:List D} (h0:s0=st a):∃o,aZ body s0=some o∧Q a o:=by
 rw [h0];have key:∀(n:Nat) (a:α),μ a<n→Inv a→∃o,Runs body (st a) o∧Q a o:=by
  intro n;induction n with
  | zero=>exact fun a h=>by omega
  | succ n ih =>
   intro a hn hI;rcases hs a hI with ⟨a',h1,h2,h3,h4⟩ | ⟨o,h1,h2,h3⟩
   ·obtain⟨o,h5,h6⟩:=ih a' (by omega) h2
    exact⟨o,.nrm h1 h5,h4 o h6⟩
   ·exact⟨o,Runs.one h1 h2,h3⟩
 obtain⟨o,h1,h2⟩:=key (μ a+1) a (by omega) h;exact⟨o,h1.loop,h2⟩
theorem bH {α:Type} {body:List D→Option Out} {K:Out→Option Out} (R:Option Out→Prop) (st:α→List D) (Inv:α→Prop) (μ:α→Nat) (Q:Out→Prop)
  (hs:∀a,Inv a→(∃a',body (st a)=some (.nrm (st a'))∧Inv a'∧μ a'<μ a)∨∃o,body (st a)=some o∧o.ends=true∧Q o) (a:α) (h:Inv a) {s0:List D} (h0:s0=st a) (hk:∀o,Q o→R (K o)):R ((aZ body s0).bind K):=by
 obtain⟨o,h1,h2⟩:=aeX st Inv μ (fun _ o=>Q o) (fun a ha=>by
  rcases hs a ha with ⟨a',g1,g2,g3⟩ | h
  ·exact .inl ⟨a',g1,g2,g3,fun _ h=>h⟩
  ·exact .inr h) a h h0
 rw [h1];exact hk o h2
theorem aq:(type_of% @ak)∧(type_of% @aF)∧(type_of% @cy)∧(type_of% @ck)∧(type_of% @cz)∧(type_of% @LX)∧(∀{α β:Type} (a:α) (f:α→Option β),(some a).bind f=f a)∧(∀{α β:Type} (a:α) (f:α→β),(some a).map f=some (f a))∧(type_of% @am)∧(type_of% @en)∧(type_of% @bK)∧(type_of% @wE)∧(type_of% @LU)∧(type_of% @bZ)∧(type_of% @Tp)∧(type_of% @bz)∧(type_of% @aO)∧(type_of% @aH)∧(type_of% @dE)∧(∀{α:Type} {_h:Decidable True} (t e:α),(if True then t else e)=t)∧(∀{α:Type} {_h:Decidable False} (t e:α),(if False then t else e)=e)∧(type_of% @aim)∧(type_of% @bn)∧(type_of% @Bool.not_true)∧(type_of% @ai3)∧(type_of% @decide_true)∧(type_of% @decide_false)∧(type_of% @and_self)∧(type_of% @bF)∧(type_of% @Nat.beq_refl)∧(type_of% @bg)∧(type_of% @eY)∧(type_of% @gg)∧(type_of% @jN)∧(type_of% @fk)∧(type_of% @jC)∧(type_of% @bw)∧(type_of% @cr)∧(type_of% @eI)∧(type_of% @aK)∧(type_of% @dZ)∧(∀{α β:Type} {l:List α} (f:α→β),(l.map f).length=l.length)∧(type_of% @bk)∧(type_of% @aP)∧(type_of% @bD)∧(type_of% @ej)∧(∀{α:Type} {l:List α},l.drop 0=l)∧(∀{α:Type} {a:α} {l:List α} {i:Nat},(a::l).drop (i+1)=l.drop i)∧(type_of% @fi)∧(type_of% @bf) :=
 ⟨@ak,⟨@aF,⟨@cy,⟨@ck,⟨@cz,⟨@LX,⟨@Option.bind_some,⟨@Option.map_some,⟨@am,⟨@en,⟨@bK,⟨@wE,⟨@LU,⟨@bZ,⟨@Tp,⟨@bz,⟨@aO,⟨@aH,⟨@dE,⟨@if_true,⟨@if_false,⟨@aim,⟨@bn,⟨@Bool.not_true,⟨@ai3,⟨@decide_true,⟨@decide_false,⟨@and_self,⟨@bF,⟨@Nat.beq_refl,⟨@bg,⟨@eY,⟨@gg,⟨@jN,⟨@fk,⟨@jC,⟨@bw,⟨@cr,⟨@eI,⟨@aK,⟨@dZ,⟨@aiY,⟨@bk,⟨@aP,⟨@bD,⟨@ej,⟨@ai1,⟨@List.drop_succ_cons,⟨@fi,@bf⟩⟩⟩⟩⟩⟩⟩⟩⟩⟩⟩⟩⟩⟩⟩⟩⟩⟩⟩⟩⟩⟩⟩⟩⟩⟩⟩⟩⟩⟩⟩⟩⟩⟩⟩⟩⟩⟩⟩⟩⟩⟩⟩⟩⟩⟩⟩⟩⟩
end Go.V

namespace Go.Proofs.YtjafgdefcggjcaaGreatDoor
open Go Go.V
theorem Fr (x:Int):jb [.v (.int .i32 x)]=some (.ret [B (decide (x<48)||decide (57<x))] []):=by
 rw [Fc];by_cases h:x<48<;>simp [h]
def sJ (x:Nat):Bool:=decide (x<48)||decide (57<x)
@[reducible] def pV:FS:=Hr 132 sJ
theorem Bj:aw gl0 Tryz.prog 131 pV :=
 SP Tryz.lays229 (by kernel_rfl) (aiD Tryz.func132 (by kernel_rfl) rfl) Ft rfl rfl
  (fun x _=>by
   show jb _=_
   rw [Fr];have h1:((x:Int)<48)↔x<48:=by omega
   have h2:((57:Int)<x)↔57<x:=by omega
   simp only [sJ,h1,h2]) (by kernel_rfl) (by kernel_rfl)
end Go.Proofs.YtjafgdefcggjcaaGreatDoor

namespace Go.V
open Go.RowKit
@[reducible] def sC (K:List Kd) (fz:List Nat) (s:Nat) (k:Kd):Kd :=
 match k with
 | .own z lv false=>match oM s fz with
  | true=>.dat (Rp 1 lv)
  | false=>.own z lv false
 | .via r=>match oM r fz with
  | true=>.dat (Rp 1 (gf K r))
  | false=>.via r
 | .ref r=>match oM r fz with
  | true=>.dat (Rp 1 (gf K r))
  | false=>.ref r
 | k=>k
@[reducible] def Tu (K:List Kd) (fz:List Nat):List Kd→Nat→List Kd
 | [],_=>[]
 | k::l,s=>sC K fz s k::Tu K fz l (Nat.succ s)
@[reducible] def rcx (c:Cx) (fz:List Nat):Cx:={c with K:=Tu c.K fz c.K 0}
def Xf (p x:D):D :=
 match p with
 | .bad=>.bad
 | _=>x
@[reducible] def adK (K:List Kd) (δ:List D):List Nat→(List D→Option Out)→Option Out
 | [],k=>k []
 | s::ss,k=>match aD K s with
  | .via r=>iL δ s fun p=>iL δ r fun x=>adK K δ ss fun l=>k (Xf p x::l)
  | _=>adK K δ ss fun l=>k (.bad::l)
def adE:List ResultVar→List Nat
 | []=>[]
 | .tmp t::l=>t::adE l
 | .cell a _::l=>a::adE l
def YR (c:Cx) (fz:List Nat):List Nat:=fz++bu c.K fz
def aes (c:Cx) (fz:List Nat):Bool :=
 (fz.all fun s=>match aD c.K s with
  | .own _ _ false=>true
  | _=>false)&&((adE c.res).all fun s=>!oM s (YR c fz))&&(c.ios.all fun s=>!oM s (YR c fz))
section
variable {P:Program} {c:Cx} {B:Nat} {X:Nat→Prop} {w0:World} {F0 F:Nat→Prop} {O:Nat→Option (Nat × Nat)} {a:Act} {w:World} {δ:List D} {fz:List Nat}
theorem yY (K:List Kd) (fz:List Nat):∀(l:List Kd) (s:Nat),(Tu K fz l s).length=l.length
 | [],_=>rfl
 | _::l,s=>by simp [Tu,yY K fz l]
theorem Sz (K:List Kd) (fz:List Nat):∀(l:List Kd) (s i:Nat),aD (Tu K fz l s) i=sC K fz (s+i) (aD l i)
 | [],s,i=>by simp [Tu,aD,sC]
 | k::l,s,0=>by simp [Tu,aD]
 | k::l,s,i+1=>by
  simp only [Tu,aD];rw [Sz K fz l (Nat.succ s) i,show Nat.succ s+i=s+(i+1) by omega]
theorem vB (c:Cx) (fz:List Nat) (s:Nat):aD (rcx c fz).K s=sC c.K fz s (aD c.K s):=by
 show aD (Tu c.K fz c.K 0) s=_
 rw [Sz,aiu]
theorem OU (h:aes c fz=true) {s:Nat} (hs:s∈fz):∃z lv,aD c.K s = .own z lv false:=by
 unfold aes at h;simp only [aik,aiy] at h;have:=h.1.1 s hs;split at this
 ·exact⟨_,_,‹_›⟩
 ·cases this
theorem zD {s:Nat} {l:List Nat} (h:s∈l):oM s l=true:=by rw [jO];exact decide_eq_true h
theorem og {s:Nat} {l:List Nat} (h:s∉l):oM s l=false:=by rw [jO];exact decide_eq_false h
theorem Vo {r:Nat} (hr:r∉fz) (h:eM c.K r):aD (rcx c fz).K r=aD c.K r:=by
 rw [vB];unfold eM at h;generalize aD c.K r=k at h;cases k
 case own z lv io=>cases io<;>simp [sC,og hr]
 case box n lv io=>rfl
 all_goals exact h.elim
theorem VJ {r:Nat} (h:eM (rcx c fz).K r):eM c.K r∧aD (rcx c fz).K r=aD c.K r:=by
 unfold eM at h ⊢;rw [vB] at h ⊢;generalize aD c.K r=k at h;cases k
 case own z lv io =>
  refine⟨trivial,?_⟩
  cases io
  case true=>rfl
  by_cases hr:r∈fz
  ·simp [sC,zD hr] at h
  ·simp [sC,og hr]
 case box n lv io=>exact⟨trivial,rfl⟩
 case via r'=>by_cases hr:r'∈fz<;>simp [sC,zD,og,hr] at h
 case ref r'=>by_cases hr:r'∈fz<;>simp [sC,zD,og,hr] at h
 all_goals exact h.elim
theorem ac2 (s:Nat):uy (aD (rcx c fz).K s)=uy (aD c.K s):=by
 rw [vB];generalize aD c.K s=k;cases k
 case own z lv io =>
  cases io
  case true=>rfl
  by_cases hr:s∈fz
  ·simp [sC,zD hr,uy]
  ·simp [sC,og hr]
 case via r'=>by_cases hr:r'∈fz<;>simp [sC,zD,og,hr,uy]
 case ref r'=>by_cases hr:r'∈fz<;>simp [sC,zD,og,hr,uy]
 all_goals rfl
theorem Vk {K K':List Kd} {r:Nat} (h:aD K' r=aD K r):pL K' r=pL K r:=by unfold pL;rw [h]
theorem ag0 {F':Nat→Prop} {b lv:Nat} (h1:F' b) (h2:B≤b):FB F' B (Rp 1 lv) b:=by
 rw [BR]
 match lv with
 | 0=>exact⟨h1,h2⟩
 | 1=>exact⟨h1,h2⟩
 | n+2 =>
  rw [Nat.max_eq_right (by omega)];exact h1
def Rq (K:List Kd) (δ:List D) (s:Nat):D :=
 match aD K s with
 | .via r=>Xf (nth δ s) (nth δ r)
 | _=>.bad
theorem TJ (K:List Kd) (δ:List D):∀(ss:List Nat) (k:List D→Option Out),adK K δ ss k=k (ss.map (Rq K δ))
 | [],_=>rfl
 | s::ss,k=>by
  simp only [adK,List.map_cons,Rq];split
  ·simp only [fy]
   exact TJ K δ ss _
  ·exact TJ K δ ss _
theorem qh (f:Nat→D):∀(ss:List Nat) (δ:List D) (s:Nat),s∈ss→nth (ay δ ss (ss.map f)) s=if s<δ.length then f s else .bad
 | i::ss,δ,s,h=>by
  simp only [List.map_cons,ay];by_cases hs:s∈ss
  ·rw [qh f ss _ s hs,jm]
  ·rw [aE _ _ _ _ hs]
   have:s=i:=by simpa [hs] using h
   subst this;exact cM _ _ _
open Classical in
theorem Inv.recast (h:Inv c B X w0 F0 F O a w δ) (hfz:aes c fz=true):∃F' O',Inv (rcx c fz) B X w0 F0 F' O' a w (ay δ (bu c.K fz) ((bu c.K fz).map (Rq c.K δ))):=by
 let G:Nat→Prop:=fun b=>∃s∈fz,O b=some (s,0)∧B≤b
 have hF:∀b,F b→F b∨G b:=fun b hb=>.inl hb
 have hG:∀(b s i:Nat),O b=some (s,i)→(i=0→s∉fz)→¬G b:=by
  rintro b s i h1 h2 ⟨s',h3,h4,_⟩;rw [h1] at h4;cases h4;exact h2 rfl h3
 refine⟨fun b=>F b∨G b,fun b=>if G b then none else O b,?_⟩
 have hO:∀(b s i:Nat),(i=0→s∉fz)→O b=some (s,i)→(if G b then none else O b)=some (s,i):=fun b s i h2 h1=>by rw [if_neg (hG b s i h1 h2),h1]
 have own:∀r∈fz,nth δ r ≠ .bad→bP w (FB (fun b=>F b∨G b) B (Rp 1 (gf c.K r))) (nth δ r) (av a r):=by
  intro r hr hb;obtain⟨z,lv,hk⟩:=OU hfz hr;have h0:=(h.slot r).resolve_left hb;rw [hk] at h0;have h1:=h0.resolve_left hb;simp only [gf,hk];refine cq (fun b hb=>?_) (fun _ _=>rfl) (na h1)
  rcases hb with hb | hb
  ·exact pU (by rw [BR];exact Nat.le_max_right _ _) b (jE hF b hb)
  ·exact ag0 (.inr ⟨r,hr,hb.1,hb.2 rfl⟩) (hb.2 rfl)
 refine⟨h.la.trans (yY _ _ _ _).symm,(eh _ _ _).trans (h.ld.trans (yY _ _ _ _).symm),h.df,fun s=>?_,fun b hb=>?_,fun b p hp=>?_,fun b hb=>.inl (h.f0 b hb),fun b hb=>?_,h.bb,h.os,h.tape,h.output,h.keep,iv (fun b hb=>.inl hb) (fun _ _=>rfl) h.gl⟩
 ·by_cases hd:s∈bu c.K fz
  ·by_cases hlt:s<δ.length
   case neg =>
    refine .inl ?_
    rw [qh _ _ _ _ hd,if_neg hlt]
   have e:nth (ay δ (bu c.K fz) ((bu c.K fz).map (Rq c.K δ))) s=Rq c.K δ s:=by rw [qh _ _ _ _ hd,if_pos hlt]
   obtain⟨r,hr,hk⟩:=xg _ hd;rcases hk with hk | hk
   case inr=>exact .inl (e.trans (by simp only [Rq,hk]))
   have e2:Rq c.K δ s=Xf (nth δ s) (nth δ r):=by simp only [Rq,hk]
   by_cases hb:nth δ s = .bad
   ·refine .inl (e.trans (e2.trans ?_))
    rw [hb];rfl
   have e3:Xf (nth δ s) (nth δ r)=nth δ r:=by
    generalize nth δ s=q at hb;cases q<;>first | rfl | exact absurd rfl hb
   have h0:=(h.slot s).resolve_left hb;rw [hk] at h0;obtain⟨b1,b2,b3,b4⟩:=h0;refine .inr ?_
   rw [vB,hk,e,e2,e3];simp only [sC,zD hr];exact .inr (by rw [b1];exact own r hr b3)
  have e:nth (ay δ (bu c.K fz) ((bu c.K fz).map (Rq c.K δ))) s=nth δ s:=aE _ _ _ _ hd;by_cases hb:nth δ s = .bad
  ·exact .inl (e.trans hb)
  have h0:=(h.slot s).resolve_left hb;refine .inr ?_
  have hkeep:∀r,eM c.K r→nth (ay δ (bu c.K fz) ((bu c.K fz).map (Rq c.K δ))) r=nth δ r:=fun r hr=>aE _ _ _ _ (uI hr _)
  rw [vB,e];generalize hk:aD c.K s=k at h0;cases k
  case dat lv=>exact h0.imp id (cq (jE hF) (fun _ _=>rfl))
  case own z lv io =>
   have h1:=h0.resolve_left hb;by_cases hs:s∈fz
   ·obtain⟨z',lv',hk'⟩:=OU hfz hs
    rw [hk] at hk';cases hk';simp only [sC,zD hs];have ho:=own s hs hb;simp only [gf,hk] at ho;exact .inr ho
   ·have e2:sC c.K fz s (.own z lv io) = .own z lv io:=by cases io<;>simp [sC,og hs]
    rw [e2];exact .inr (Su (jE hF) (fun _ _=>rfl) (fun g hg=>⟨⟨hO g s 0 (fun _=>hs) hg.1,hg.2⟩,rfl⟩) h1)
  case box n lv io =>
   have h1:=h0.resolve_left hb;have hs:s∉fz:=fun hs=>by
    obtain⟨z',lv',hk'⟩:=OU hfz hs;rw [hk] at hk';cases hk'
   exact .inr (BN (jE hF) (fun _ _=>rfl) (fun g hg=>⟨⟨hO g s 0 (fun _=>hs) hg.1,hg.2⟩,rfl⟩) h1)
  case via r =>
   have hr:r∉fz:=fun hr=>hd (mE (.inl hk) _ hr)
   obtain⟨b1,b2,b3,b4⟩:=h0;simp only [sC,og hr];exact⟨b1,b2,by rw [hkeep r (oI b4)];exact b3,by rw [Vk (Vo hr (oI b4))];exact b4⟩
  case ref r =>
   have hr:r∉fz:=fun hr=>hd (mE (.inr hk) _ hr)
   obtain⟨i,f,b1,b2,b3⟩:=h0;simp only [sC,og hr];exact⟨i,f,b1,by rw [hkeep r (mJ b3)];exact b2,by rw [Vo hr (mJ b3)];exact b3⟩
  case tup ms =>
   obtain⟨l,vs,b1,b2,b3⟩:=h0;exact⟨l,vs,b1,b2,fun i=>BE hF (fun _ _=>rfl) (fun g hg=>⟨hO g s (i+1) (fun h=>by omega) hg,rfl⟩) (b3 i)⟩
  case no=>trivial
 ·rcases hb with hb | hb
  ·obtain⟨h1,h2⟩:=h.fl b hb
   refine⟨h1,?_⟩
   simp only [h2];split<;>rfl
  ·obtain⟨s,h1,h2,h3⟩:=hb
   exact⟨(h.ol b _ h2).1,if_pos ⟨s,h1,h2,h3⟩⟩
 ·split at hp
  ·cases hp
  ·exact h.ol b p hp
 ·rcases hb with hb | ⟨s,h1,h2,h3⟩
  ·exact h.fn b hb
  ·exact .inr h3
theorem Inv.uncast (h:Inv (rcx c fz) B X w0 F0 F O a w δ):Inv c B X w0 F0 F O a w (ay δ (YR c fz) []):=by
 refine⟨h.la.trans (yY _ _ _ _),(eh _ _ _).trans (h.ld.trans (yY _ _ _ _)),h.df,fun s=>?_,h.fl,h.ol,h.f0,h.fn,h.bb,h.os,h.tape,h.output,h.keep,h.gl⟩
 by_cases hd:s∈YR c fz
 ·exact .inl (nF _ _ _ hd)
 have e:nth (ay δ (YR c fz) []) s=nth δ s:=aE _ _ _ _ hd;by_cases hb:nth δ s = .bad
 ·exact .inl (e.trans hb)
 have h0:=(h.slot s).resolve_left hb;refine .inr ?_
 have hs:s∉fz:=fun hs=>hd (aiB _ hs)
 have hdp:s∉bu c.K fz:=fun hs=>hd (List.mem_append_right _ hs)
 have hkeep:∀r,r∉fz→eM c.K r→nth (ay δ (YR c fz) []) r=nth δ r:=fun r h1 h2=>aE _ _ _ _ fun hm=>by
  rcases ait.1 hm with hm | hm
  ·exact h1 hm
  ·exact uI h2 _ hm
 rw [vB] at h0;rw [e];generalize hk:aD c.K s=k at h0;cases k
 case own z lv io =>
  have e2:sC c.K fz s (.own z lv io) = .own z lv io:=by cases io<;>simp [sC,og hs]
  rw [e2] at h0;exact h0
 case via r =>
  have hr:r∉fz:=fun hr=>hdp (mE (.inl hk) _ hr)
  simp only [sC,og hr] at h0;obtain⟨b1,b2,b3,b4⟩:=h0;obtain⟨g1,g2⟩:=VJ (oI b4);exact⟨b1,b2,by rw [hkeep r hr g1];exact b3,by rw [←Vk g2];exact b4⟩
 case ref r =>
  have hr:r∉fz:=fun hr=>hdp (mE (.inr hk) _ hr)
  simp only [sC,og hr] at h0;obtain⟨i,f,b1,b2,b3⟩:=h0;obtain⟨g1,g2⟩:=VJ (mJ b3);exact⟨i,f,b1,by rw [hkeep r hr g1];exact b2,by rw [←g2];exact b3⟩
 all_goals exact h0
end
end Go.V

namespace Go.V
open Go.RowKit
@[reducible] def Ck (c:Cx) (Z:List (Nat × List Nat)):Nat→Code→List D→(Out→Option Out)→Option Out
 | _,.skip,δ,k=>k (.nrm δ)
 | _,.region id ops _,δ,k=>match eo Z id with
  | some fz=>adK c.K δ (bu c.K fz) fun l=>fc δ (bu c.K fz) l fun δ'=>ml (rcx c fz) ops.toList ops.toList δ' fun δ2=>fc δ2 fz [] fun δ3=>fc δ3 (bu c.K fz) [] fun δ4=>k (.nrm δ4)
  | none=>ml c ops.toList ops.toList δ fun δ'=>k (.nrm δ')
 | bid,.seq a b,δ,k=>Ck c Z bid a δ fun o=>adU o (fun δ'=>Ck c Z bid b δ' k) k
 | bid,.cond x t e,δ,k=>opC δ x fun q=>ifD q (Ck c Z bid t δ k) (Ck c Z bid e δ k)
 | _,.block id b,δ,k=>Ck c Z id b δ fun o=>Lk id o k
 | bid,.loop b,δ,k=>match eo c.H bid with
  | none=>none
  | some (hl,xl) =>
   uD δ hl fun s=>(aZ (fun s=>iQ (kY c.K) hl s fun δ=>Ck c Z bid b δ (co hl xl)) s).bind fun o =>
    bS o (fun i s=>iQ (kY c.K) xl s fun δ=>k (.ext i δ)) (fun a b=>k (.ret a b))
 | _,.exit id,δ,k=>k (.ext id δ)
 | _,.ret,δ,k=>rU c δ c.res fun rs=>uD δ c.ios fun us=>usK us (k (.ret rs us))
 | _,_,_,_=>none
@[reducible] def vp (c:Cx) (Z:List (Nat × List Nat)) (fn:Func) (ds:List D):Option Out :=
 match fn.body with
 | none=>none
 | some b=>Ck c Z 0 b (vV fn.ntmps ds) fun o=>match o with
  | .nrm δ=>rU c δ c.res fun rs=>uD δ c.ios fun us=>usK us (some (.ret rs us))
  | .ext _ _=>none
  | .ret rs us=>some (.ret rs us)
def gZ (c:Cx) (Z:List (Nat × List Nat)):Nat→Code→Bool
 | _,.skip=>true
 | bid,.region id ops d=>match eo Z id with
  | some fz=>aes c fz&&eV (rcx c fz) bid (.region id ops d)
  | none=>eV c bid (.region id ops d)
 | b,.seq x y=>gZ c Z b x&&gZ c Z b y
 | b,.cond x t e=>Nat.ble (gm c.K x) 2&&gZ c Z b t&&gZ c Z b e
 | _,.block id x=>gZ c Z id x
 | b,.loop x=>gZ c Z b x&&(match eo c.H b with
  | some (hl,xl)=>nz c.K hl&&nz c.K xl
  | none=>false)
 | _,.exit _=>true
 | _,.ret=>true
 | _,_=>false
def adq (c:Cx) (Z:List (Nat × List Nat)) (fn:Func) (pm rm:List Kd):Bool :=
 (match fn.body with
  | some b=>gZ c Z 0 b
  | none=>false)&&aiV (kY c.K) fn.ntmps&&Rw pm c.K&&mU pm&&dL c c.res rm&&decide (c.ios=zO 0 pm)
section
variable {P:Program} {c:Cx} {B:Nat} {X:Nat→Prop} {w0:World} {F0 F:Nat→Prop} {O:Nat→Option (Nat × Nat)} {a:Act} {w:World} {δ:List D} {fz:List Nat}
theorem JV:∀(ss ts:List Nat) (δ:List D),ay (ay δ ss []) ts []=ay δ (ss++ts) []
 | [],_,_=>rfl
 | i::ss,ts,δ=>by
  simp only [List.cons_append,ay];exact JV ss ts _
def unK (c:Cx) (fz:List Nat) (k:Out→Option Out) (o:Out):Option Out :=
 match o with
 | .nrm δ=>k (.nrm (ay δ (YR c fz) []))
 | _=>none
theorem HZ {V:Nat→Value} {b:Code} {bid:Nat} {Z:List (Nat × List Nat)} {hl xl:List Nat} (h1:nz c.K hl=true) (h2:nz c.K xl=true)
  (ih:∀(F:Nat→Prop) (O:Nat→Option (Nat × Nat)) (a:Act) (w:World) (δ:List D),Inv c B X w0 F0 F O a w δ→IoV c V a→∀(k:Out→Option Out) (r:Out),Ck c Z bid b δ k=some r→∀Q,(∀e a w,Ta c B X w0 F0 V k r e a w→Q e a w)→b.wp P Q a w)
  {k:Out→Option Out} {r:Out} {Q:Exit→Act→World→Prop} (hQ:∀e a w,Ta c B X w0 F0 V k r e a w→Q e a w) {o:Out}
  (ho:bS o (fun i s=>iQ (kY c.K) xl s fun δ=>k (.ext i δ)) (fun x y=>k (.ret x y))=some r):∀(n:Nat) (F:Nat→Prop) (O:Nat→Option (Nat × Nat)) (a:Act) (w:World) (δ:List D),Inv c B X w0 F0 F O a w δ→IoV c V a →
  iter (fun s=>iQ (kY c.K) hl s fun δ=>Ck c Z bid b δ (co hl xl)) n (aA δ hl)=some o→Code.rounds P b Q n a w
 | 0,_,_,_,_,_,_,_,h=>by cases h
 | n+1,F,O,a,w,δ,hI,hV,h=>by
  simp only [iter,mu] at h;rw [rounds_succ];have hI':=hI.carry h1;cases hb:Ck c Z bid b (carry (kY c.K) hl δ) (co hl xl) with
  | none=>rw [hb] at h;cases h
  | some ob =>
   rw [hb] at h;refine ih F O a w _ hI' hV _ ob hb _ (fun e a' w' hp=>?_)
   cases ob with
   | nrm s' =>
    simp only at h;cases e with
    | normal =>
     obtain⟨⟨F',O',δ',g1,g2⟩,g3⟩:=hp;simp only [co,ch,ail,Out.nrm.injEq] at g2;rw [←g2] at h;exact HZ h1 h2 ih hQ ho n F' O' a' w' δ' g1 g3 h
    | exit i =>
     obtain⟨⟨F',O',δ',g1,g2⟩,g3⟩:=hp;simp [co,ch] at g2
    | ret =>
     obtain⟨⟨F',O',δ',g1,g2⟩,g3⟩:=hp;obtain⟨rs,_,_,g4⟩:=hP g2;simp [co] at g4
    | _=>exact hp.elim
   | ext i l =>
    simp only [ail] at h;subst h;cases e with
    | normal =>
     obtain⟨⟨F',O',δ',g1,g2⟩,g3⟩:=hp;simp [co,ch] at g2
    | exit j =>
     obtain⟨⟨F',O',δ',g1,g2⟩,g3⟩:=hp;simp only [co,ch,ail,Out.ext.injEq] at g2;obtain⟨rfl,rfl⟩:=g2;simp only [bS,mu] at ho;exact hQ (.exit j) _ _ ⟨⟨F',O',_,g1.carry h2,ho⟩,g3⟩
    | ret =>
     obtain⟨⟨F',O',δ',g1,g2⟩,g3⟩:=hp;obtain⟨rs,_,_,g4⟩:=hP g2;simp [co] at g4
    | _=>exact hp.elim
   | ret x y =>
    simp only [ail] at h;subst h;cases e with
    | normal =>
     obtain⟨⟨F',O',δ',g1,g2⟩,g3⟩:=hp;simp [co,ch] at g2
    | exit j =>
     obtain⟨⟨F',O',δ',g1,g2⟩,g3⟩:=hp;simp [co,ch] at g2
    | ret =>
     obtain⟨⟨F',O',δ',g1,g2⟩,g3⟩:=hp;obtain⟨rs,g5,g6,g4⟩:=hP g2;simp only [co,ail,Out.ret.injEq] at g4;obtain⟨rfl,rfl⟩:=g4;exact hQ .ret _ _ ⟨⟨F',O',δ',g1,BT g5 g6 ho⟩,g3⟩
    | _=>exact hp.elim
theorem mo (hT:okT P c.T=true) (hS:∀f S,eo c.S f=some S→aw c.G P f S) (hm:P.follows .mixedOrders=true) {V:Nat→Value} {Z:List (Nat × List Nat)}:∀(b:Code) (bid:Nat),gZ c Z bid b=true→∀(F:Nat→Prop) (O:Nat→Option (Nat × Nat)) (a:Act) (w:World) (δ:List D),
  Inv c B X w0 F0 F O a w δ→IoV c V a→∀(k:Out→Option Out) (r:Out),Ck c Z bid b δ k=some r→∀Q,(∀e a w,Ta c B X w0 F0 V k r e a w→Q e a w)→b.wp P Q a w
 | .skip,bid,_,F,O,a,w,δ,hI,hV,k,r,hg,Q,hQ=>wp_skip (hQ _ _ _ ⟨⟨F,O,δ,hI,hg⟩,hV⟩)
 | .region id ops d,bid,hok,F,O,a,w,δ,hI,hV,k,r,hg,Q,hQ=>by
  simp only [gZ] at hok;simp only [Ck] at hg;cases hH:eo Z id with
  | none =>
   rw [hH] at hok hg;exact kM hT hS hm (.region id ops d) bid hok F O a w δ hI hV k r hg Q hQ
  | some fz =>
   rw [hH] at hok hg;simp only [aik] at hok;simp only [TJ,dc,JV] at hg;obtain⟨F2,O2,hI2⟩:=hI.recast hok.1;refine kM (c:=rcx c fz) hT hS hm (.region id ops d) bid hok.2 F2 O2 a w _ hI2 (fun s hs=>hV s (by rw [←ac2 (fz:=fz)];exact hs)) (unK c fz k) r hg Q (fun e a w hp=>?_)
   cases e with
   | normal =>
    obtain⟨⟨F',O',δ',hI',hk'⟩,hV'⟩:=hp;exact hQ .normal _ _ ⟨⟨F',O',_,hI'.uncast,hk'⟩,fun s hs=>hV' s (by rw [ac2];exact hs)⟩
   | exit i=>obtain⟨⟨_,_,_,_,h⟩,_⟩:=hp;cases h
   | ret =>
    obtain⟨⟨_,_,_,_,h⟩,_⟩:=hp;obtain⟨rs,h1,h2,h3⟩:=hP h;cases h3
   | _=>exact hp.elim
 | .seq x y,bid,hok,F,O,a,w,δ,hI,hV,k,r,hg,Q,hQ=>by
  simp only [gZ,aik] at hok;refine wp_seq (mo hT hS hm x bid hok.1 F O a w δ hI hV _ r hg _ (fun e a' w' hp=>?_))
  cases e with
  | normal =>
   obtain⟨⟨F',O',δ',hI',hk'⟩,hV'⟩:=hp;exact mo hT hS hm y bid hok.2 F' O' a' w' δ' hI' hV' k r hk' Q hQ
  | exit id=>exact hQ _ _ _ hp
  | ret=>exact hQ _ _ _ hp
  | _=>exact hp.elim
 | .cond x t e,bid,hok,F,O,a,w,δ,hI,hV,k,r,hg,Q,hQ=>by
  simp only [gZ,aik] at hok;obtain⟨⟨hlv,hok1⟩,hok2⟩:=hok;have hop:=hI.opd (cR.1 hlv);have key:ifD (opD δ x) (Ck c Z bid t δ k) (Ck c Z bid e δ k)=some r:=by
   simp only [Ck] at hg;cases x with
   | tmp s=>simpa only [opC,fy,opD] using hg
   | const v=>simpa only [opC,opD] using hg
   | func f=>simpa only [opC,opD] using hg
   | global g=>simp [opC] at hg
  unfold ifD at key;split at key
  ·rename_i hd
   rw [hd] at hop;exact wp_cond_true (bJ hop).1 (mo hT hS hm t bid hok1 F O a w δ hI hV k r key Q hQ)
  ·rename_i hd
   rw [hd] at hop;exact wp_cond_false (bJ hop).1 (mo hT hS hm e bid hok2 F O a w δ hI hV k r key Q hQ)
  ·cases key
 | .block id b,bid,hok,F,O,a,w,δ,hI,hV,k,r,hg,Q,hQ=>by
  simp only [gZ] at hok;refine wp_block (mo hT hS hm b id hok F O a w δ hI hV _ r hg _ (fun e a' w' hp=>?_))
  cases e with
  | normal=>exact hQ .normal _ _ hp
  | exit i =>
   simp only [Exit.inBlock];have hp':ki c B X w0 F0 V (fun δ=>Lk id (.ext i δ) k) r a' w':=hp;split
   ·rename_i hi
    refine hQ .normal _ _ (iY hp' fun δ F O _ h=>?_)
    simp only [Lk] at h;rw [bd.2 (by simpa using hi)] at h;exact h
   ·rename_i hi
    refine hQ (.exit i) _ _ (iY hp' fun δ F O _ h=>?_)
    simp only [Lk] at h;cases hb:aiV i id
    ·rw [hb] at h;exact h
    ·exact absurd (by simpa using bd.1 hb) hi
  | ret=>exact hQ .ret _ _ hp
  | _=>exact hp.elim
 | .loop b,bid,hok,F,O,a,w,δ,hI,hV,k,r,hg,Q,hQ=>by
  simp only [gZ,aik] at hok;obtain⟨hok1,hok2⟩:=hok;simp only [Ck] at hg;cases hH:eo c.H bid with
  | none=>rw [hH] at hg;cases hg
  | some hx =>
   obtain⟨hl,xl⟩:=hx;rw [hH] at hg hok2;simp only [aik] at hok2;simp only [ch] at hg;obtain⟨o',h1,h2⟩:=ais.1 hg;unfold aZ at h1;split at h1
   case isFalse=>cases h1
   rename_i hex;refine wp_loop_rounds (aiz hex) ?_
   refine HZ (hl:=hl) (xl:=xl) hok2.1 hok2.2 (fun F O a w δ hI hV k r hg Q hQ=>mo hT hS hm b bid hok1 F O a w δ hI hV k r hg Q hQ) hQ h2 _ F O a w δ hI hV h1
 | .exit id,bid,_,F,O,a,w,δ,hI,hV,k,r,hg,Q,hQ=>wp_exit (hQ _ _ _ ⟨⟨F,O,δ,hI,hg⟩,hV⟩)
 | .ret,bid,_,F,O,a,w,δ,hI,hV,k,r,hg,Q,hQ=>wp_ret (hQ _ _ _ ⟨⟨F,O,δ,hI,hg⟩,hV⟩)
 | .label _,_,hok,_,_,_,_,_,_,_,_,_,_,_,_=>by simp [gZ] at hok
 | .goto _,_,hok,_,_,_,_,_,_,_,_,_,_,_,_=>by simp [gZ] at hok
 | .scope _,_,hok,_,_,_,_,_,_,_,_,_,_,_,_=>by simp [gZ] at hok
theorem abn (hT:okT P c.T=true) (hS:∀f S,eo c.S f=some S→aw c.G P f S) (hm:P.follows .mixedOrders=true) {Z:List (Nat × List Nat)} {f:FuncId} {fn:Func} (hf:P.funcs[f]?=some fn) {pm rm:List Kd} (hok:adq c Z fn pm rm=true) (hres:c.res=fn.results.toList)
  {ds rs us:List D} (hd:vp c Z fn ds=some (.ret rs us)) {args:Array Value} {w:World} {F:Nat→Prop} {ow:Nat→Option Nat} (hgl:gOk c.G w F) (ha:fC w F ow 0 pm ds args.toList) (hF:∀b,F b→b<w.heap.size∧ow b=none) (hO:∀b i,ow b=some i→b<w.heap.size) :
  Calls P f args w fun e w'=>∃v,e = .returned v∧∃F' R' vs,v=lf vs∧CallPost {pm:=pm,rm:=rm,f:=vp c Z fn} args rs us w F ow F' R' vs w':=by
 unfold adq at hok;simp only [aik,decide_eq_true_eq] at hok;obtain⟨⟨⟨⟨⟨hcode,hlenK⟩,hpre⟩,hpm⟩,hokr⟩,hios⟩:=hok;rw [bd,oQ] at hlenK;obtain⟨hpl,hpn⟩:=BK hpre;obtain⟨hdl,hal,hargs⟩:=BS pm ds args.toList 0 ha;have hasz:args.size=pm.length:=by simpa using hal
 unfold vp at hd;cases hb:fn.body with
 | none=>rw [hb] at hd;cases hd
 | some b =>
  rw [hb] at hd hcode;simp only at hd hcode;refine calls_of_wp hf hb ?_
  have hav:∀s,s<pm.length→av ({tmps:=args++aio (fn.ntmps - args.size) undef,defers:=[]}:Act) s=args.toList.getD s undef:=fun s hs=>by
   have h1:s<args.size:=by omega
   simp only [av,aiE,aiq,aiP];rw [aiG h1]
  have hinit:Inv c w.heap.size (fun b=>ow b≠none) w F F (fun b=>(ow b).map fun i=>(i,0)) {tmps:=args++aio (fn.ntmps - args.size) undef,defers:=[]} w (vV fn.ntmps ds):=by
   refine⟨by simp;omega,by rw [vk,hlenK],rfl,fun s=>?_,fun b hb=>⟨(hF b hb).1,by simp [(hF b hb).2]⟩,fun b p hp=>?_,fun _ h=>h,fun _ h=>.inl h,aiN _,rfl,rfl,rfl,fun _ _ _=>rfl,hgl⟩
   ·unfold Fa
    rw [vH _ _ _ (by rw [hdl];omega)];by_cases hs:s<pm.length
    ·rw [hpn s hs,hav s hs]
     rcases hargs s hs with hbad | harg
     ·exact .inl hbad
     refine .inr ?_
     have hlv:∀lv,lv≠1→∀b,FB F 0 lv b→FB F w.heap.size lv b:=fun lv h1 b hb=>by
      match lv,h1 with
      | 0,_=>exact hb
      | _+2,_=>exact hb
     rcases xe hpm s hs with ⟨lv,hk,h1⟩ | ⟨z,lv,hk,h1⟩ | ⟨n,lv,hk,h1⟩
     ·rw [hk] at harg ⊢
      exact .inr (cq (hlv lv h1) (fun _ _=>rfl) harg)
     ·rw [hk] at harg ⊢
      exact .inr (eE (hlv lv h1) (fun _ _=>rfl) (fun g _ hg=>⟨⟨by simp only [aiu] at hg;simp [hg],fun h=>by cases h⟩,rfl⟩) harg)
     ·rw [hk] at harg ⊢
      exact .inr (mj (hlv lv h1) (fun _ _=>rfl) (fun g _ hg=>⟨⟨by simp only [aiu] at hg;simp [hg],fun h=>by cases h⟩,rfl⟩) harg)
    ·refine .inl ?_
     rw [iS,aiq,aiQ (by omega)];rfl
   ·obtain⟨i,hi,rfl⟩:=aix.1 hp
    exact⟨hO b i hi,.inr (by rw [hi];simp)⟩
  refine mo hT hS hm b 0 hcode F _ _ w _ hinit (V:=av {tmps:=args++aio (fn.ntmps - args.size) undef,defers:=[]}) (fun _ _=>rfl) _ _ hd _ (fun e a' w' hp=>?_)
  have fin:ki c w.heap.size (fun b=>ow b≠none) w F (av {tmps:=args++aio (fn.ntmps - args.size) undef,defers:=[]}) (fun δ=>WL c δ some) (.ret rs us) a' w'→a'.defers=[]∧∃v,(results fn a'.tmps).run P w' = .ok v w'∧∃v',aiZ v = .returned v'∧∃F' R' vs,v'=lf vs∧CallPost {pm:=pm,rm:=rm,f:=vp c Z fn} args rs us w F ow F' R' vs w':=by
   rintro⟨⟨F',O',δ',hI',hk⟩,hV'⟩;obtain⟨rs',h1,h2,h3⟩:=hP hk;simp only [ail,Out.ret.injEq] at h3;obtain⟨rfl,rfl⟩:=h3;obtain⟨vs,g1,g2,g3,g4⟩:=BG (P:=P) hT hI' c.res rm rs' hokr h1;refine⟨hI'.df,lf vs,?_,_,rfl,F',fun b=>if w.heap.size≤b then(match O' b with
    | some (t,0)=>DT c.res t 0
    | _=>none) else none,vs,rfl,?_⟩
   ·have hrun:(fn.results.mapM (sE a'.tmps)).run P w' = .ok vs.toArray w':=by
     rw [aiJ,←hres];simp [g1]
    have hrw:results fn a'.tmps=(do
      let vs ←fn.results.mapM (sE a'.tmps)
      pure (if h:vs.size=1 then vs[0] else .tuple vs)):=by
     unfold results;congr 1
    rw [hrw];simp only [Sem.run_bind,hrun,aiW,Sem.run_pure];congr 1
    rcases vs with _ | ⟨y,_ | ⟨y',vs⟩⟩
    ·simp [lf]
    ·simp [lf]
    ·simp [lf]
   ·refine⟨hI'.os,hI'.tape,hI'.output,hI'.bb,fun b hb ho=>hI'.keep b hb (by simp [ho]),hI'.f0,fun b hb=>⟨hI'.fn b hb,(hI'.fl b hb).1,by simp only [(hI'.fl b hb).2];split<;>rfl⟩,fun b j hj=>?_,g2,g3,fun j=>?_,?_⟩
    ·split at hj
     case isFalse=>cases hj
     rename_i hB;refine⟨hB,?_⟩
     split at hj
     ·rename_i t he;exact(hI'.ol b _ he).1
     ·cases hj
    ·refine oC (fun hk g hg=>?_) (g4 j)
     obtain⟨z,lv,hk⟩:=hk;obtain⟨e1,t,e2,e3⟩:=hg;rw [if_pos e1];simp only [e3];have:=(rK c.res rm hokr j t 0 z lv hk e2).1;simpa using this
    ·rw [hios]
     refine LR pm args.toList 0 hal (fun j hj hio=>?_)
     rw [aiu];have hkj:=hpn j hj;have hbj:nth δ' j ≠ .bad:=by
      refine h2 _ ?_
      rw [hios,sB];exact aiT (by simpa using BD pm 0 j hj hio)
     have havj:av a' j=args.toList.getD j undef:=(hV' j (by rw [hkj];exact hio)).trans (hav j hj);have hlv:∀lv,lv≠1→∀b,FB F' w.heap.size lv b→FB F' 0 lv b:=fun lv h1 b hb=>by
      match lv,h1 with
      | 0,_=>exact hb
      | _+2,_=>exact hb
     refine⟨hbj,.inr ?_⟩
     rcases xe hpm j hj with ⟨lv,hk,h1⟩ | ⟨z,lv,hk,h1⟩ | ⟨n,lv,hk,h1⟩
     ·rw [hk] at hio;cases hio
     ·have h5:=hI'.own (hkj.trans hk) hbj
      rw [havj] at h5;rw [hk];exact eE (hlv lv h1) (fun _ _=>rfl) (fun _ _ _=>⟨trivial,rfl⟩) h5
     ·have h5:=hI'.box (hkj.trans hk) hbj
      rw [havj] at h5;rw [hk];exact mj (hlv lv h1) (fun _ _=>rfl) (fun _ _ _=>⟨trivial,rfl⟩) h5
  cases e with
  | normal=>exact fin hp
  | exit i =>
   obtain⟨⟨_,_,_,_,h⟩,_⟩:=hp;cases h
  | ret =>
   refine fin (iY hp fun δ F O _ h=>?_)
   obtain⟨rs',h1,h2,h3⟩:=hP h;exact BT h1 h2 h3
  | _=>exact hp.elim
theorem rG (hT:okT P c.T=true) (hS:∀f S,eo c.S f=some S→aw c.G P f S) (hm:P.follows .mixedOrders=true) {Z:List (Nat × List Nat)} {f:FuncId} {fn:Func} (hf:P.funcs[f]?=some fn) (hname:(fn.name=="runtime.NumGoroutine")=false) {pm rm:List Kd} (hok:adq c Z fn pm rm=true) (hres:c.res=fn.results.toList) :
  aw c.G P f {pm:=pm,rm:=rm,f:=vp c Z fn}:=by
 intro ds rs us hd args w F ow hgl ha hF hO o a next Q hn
 have hbody:∃b,fn.body=some b:=by
  have hd':vp c Z fn ds=some (.ret rs us):=hd;unfold vp at hd';cases hb:fn.body with
  | none=>rw [hb] at hd';cases hd'
  | some b=>exact⟨b,rfl⟩
 obtain⟨b,hb⟩:=hbody;have hrun:(callFunc f args).run P w = .ok (.enter f args) w:=by
  have h1:¬fn.name="runtime.NumGoroutine":=by simpa using hname
  simp [callFunc,hf,h1,hb]
 rw [hrun,aiA];refine aiI (abn hT hS hm hf hok hres hd hgl ha hF hO) (fun e w' he=>?_)
 obtain⟨v,rfl,F',R',vs,h1,h2⟩:=he;exact hn v w' ⟨F',R',vs,h1,h2⟩
end
end Go.V

namespace Go.V
open Go.RowKit
def ga (f:(List D→Option Out)→Option Out) (k:List D→Option Out):Option Out:=f k
@[reducible] def yP (c:Cx) (J:List (Nat × List Nat)):Nat→Nat→Code→List D→(Out→Option Out)→Option Out
 | _,_,.skip,δ,k=>k (.nrm δ)
 | _,_,.region _ ops _,δ,k=>ml c ops.toList ops.toList δ fun δ'=>k (.nrm δ')
 | p,bid,.seq a b,δ,k=>match eo J p with
  | none=>yP c J (aiw 2 p) bid a δ fun o=>adU o (fun δ'=>yP c J (ai4 (aiw 2 p) 1) bid b δ' k) k
  | some hl=>ga (fun j=>yP c J (aiw 2 p) bid a δ fun o=>adU o (fun δ'=>uD δ' hl fun s=>j s) k) (fun s=>iQ (kY c.K) hl s fun δ'=>yP c J (ai4 (aiw 2 p) 1) bid b δ' k)
 | p,bid,.cond x t e,δ,k=>opC δ x fun q=>ifD q (yP c J (aiw 2 p) bid t δ k) (yP c J (ai4 (aiw 2 p) 1) bid e δ k)
 | p,_,.block id b,δ,k=>yP c J (aiw 2 p) id b δ fun o=>Lk id o k
 | p,bid,.loop b,δ,k=>match eo c.H bid with
  | none=>none
  | some (hl,xl) =>
   uD δ hl fun s=>(aZ (fun s=>iQ (kY c.K) hl s fun δ=>yP c J (aiw 2 p) bid b δ (co hl xl)) s).bind fun o =>
    bS o (fun i s=>iQ (kY c.K) xl s fun δ=>k (.ext i δ)) (fun a b=>k (.ret a b))
 | _,_,.exit id,δ,k=>k (.ext id δ)
 | _,_,.ret,δ,k=>rU c δ c.res fun rs=>uD δ c.ios fun us=>usK us (k (.ret rs us))
 | _,_,_,_,_=>none
@[reducible] def CF (c:Cx) (J:List (Nat × List Nat)) (fn:Func) (ds:List D):Option Out :=
 match fn.body with
 | none=>none
 | some b=>yP c J 1 0 b (vV fn.ntmps ds) fun o=>match o with
  | .nrm δ=>rU c δ c.res fun rs=>uD δ c.ios fun us=>usK us (some (.ret rs us))
  | .ext _ _=>none
  | .ret rs us=>some (.ret rs us)
def okJ (c:Cx) (J:List (Nat × List Nat)):Bool:=J.all fun p=>nz c.K p.2
theorem acg {c:Cx}:∀{J:List (Nat × List Nat)} {p:Nat} {hl:List Nat},okJ c J=true→eo J p=some hl→nz c.K hl=true
 | [],_,_,_,h=>by cases h
 | (q,l)::J,p,hl,hJ,h=>by
  unfold okJ at hJ;rw [List.all_cons,aik] at hJ;simp only [eo] at h;split at h
  ·cases h
   exact hJ.1
  ·exact acg (J:=J) hJ.2 h
section
variable {P:Program} {c:Cx} {B:Nat} {X:Nat→Prop} {w0:World} {F0 F:Nat→Prop} {O:Nat→Option (Nat × Nat)} {a:Act} {w:World} {δ:List D}
theorem Gv {V:Nat→Value} {J:List (Nat × List Nat)} {p:Nat} {b:Code} {bid:Nat} {hl xl:List Nat} (h1:nz c.K hl=true) (h2:nz c.K xl=true)
  (ih:∀(F:Nat→Prop) (O:Nat→Option (Nat × Nat)) (a:Act) (w:World) (δ:List D),Inv c B X w0 F0 F O a w δ→IoV c V a→∀(k:Out→Option Out) (r:Out),yP c J p bid b δ k=some r→∀Q,(∀e a w,Ta c B X w0 F0 V k r e a w→Q e a w)→b.wp P Q a w)
  {k:Out→Option Out} {r:Out} {Q:Exit→Act→World→Prop} (hQ:∀e a w,Ta c B X w0 F0 V k r e a w→Q e a w) {o:Out}
  (ho:bS o (fun i s=>iQ (kY c.K) xl s fun δ=>k (.ext i δ)) (fun x y=>k (.ret x y))=some r):∀(n:Nat) (F:Nat→Prop) (O:Nat→Option (Nat × Nat)) (a:Act) (w:World) (δ:List D),Inv c B X w0 F0 F O a w δ→IoV c V a →
  iter (fun s=>iQ (kY c.K) hl s fun δ=>yP c J p bid b δ (co hl xl)) n (aA δ hl)=some o→Code.rounds P b Q n a w
 | 0,_,_,_,_,_,_,_,h=>by cases h
 | n+1,F,O,a,w,δ,hI,hV,h=>by
  simp only [iter,mu] at h;rw [rounds_succ];have hI':=hI.carry h1;cases hb:yP c J p bid b (carry (kY c.K) hl δ) (co hl xl) with
  | none=>rw [hb] at h;cases h
  | some ob =>
   rw [hb] at h;refine ih F O a w _ hI' hV _ ob hb _ (fun e a' w' hp=>?_)
   cases ob with
   | nrm s' =>
    simp only at h;cases e with
    | normal =>
     obtain⟨⟨F',O',δ',g1,g2⟩,g3⟩:=hp;simp only [co,ch,ail,Out.nrm.injEq] at g2;rw [←g2] at h;exact Gv h1 h2 ih hQ ho n F' O' a' w' δ' g1 g3 h
    | exit i =>
     obtain⟨⟨F',O',δ',g1,g2⟩,g3⟩:=hp;simp [co,ch] at g2
    | ret =>
     obtain⟨⟨F',O',δ',g1,g2⟩,g3⟩:=hp;obtain⟨rs,_,_,g4⟩:=hP g2;simp [co] at g4
    | _=>exact hp.elim
   | ext i l =>
    simp only [ail] at h;subst h;cases e with
    | normal =>
     obtain⟨⟨F',O',δ',g1,g2⟩,g3⟩:=hp;simp [co,ch] at g2
    | exit j =>
     obtain⟨⟨F',O',δ',g1,g2⟩,g3⟩:=hp;simp only [co,ch,ail,Out.ext.injEq] at g2;obtain⟨rfl,rfl⟩:=g2;simp only [bS,mu] at ho;exact hQ (.exit j) _ _ ⟨⟨F',O',_,g1.carry h2,ho⟩,g3⟩
    | ret =>
     obtain⟨⟨F',O',δ',g1,g2⟩,g3⟩:=hp;obtain⟨rs,_,_,g4⟩:=hP g2;simp [co] at g4
    | _=>exact hp.elim
   | ret x y =>
    simp only [ail] at h;subst h;cases e with
    | normal =>
     obtain⟨⟨F',O',δ',g1,g2⟩,g3⟩:=hp;simp [co,ch] at g2
    | exit j =>
     obtain⟨⟨F',O',δ',g1,g2⟩,g3⟩:=hp;simp [co,ch] at g2
    | ret =>
     obtain⟨⟨F',O',δ',g1,g2⟩,g3⟩:=hp;obtain⟨rs,g5,g6,g4⟩:=hP g2;simp only [co,ail,Out.ret.injEq] at g4;obtain⟨rfl,rfl⟩:=g4;exact hQ .ret _ _ ⟨⟨F',O',δ',g1,BT g5 g6 ho⟩,g3⟩
    | _=>exact hp.elim
theorem iH (hT:okT P c.T=true) (hS:∀f S,eo c.S f=some S→aw c.G P f S) (hm:P.follows .mixedOrders=true) {V:Nat→Value} {J:List (Nat × List Nat)} (hJ:okJ c J=true):∀(b:Code) (p bid:Nat),eV c bid b=true→∀(F:Nat→Prop) (O:Nat→Option (Nat × Nat)) (a:Act) (w:World) (δ:List D),
  Inv c B X w0 F0 F O a w δ→IoV c V a→∀(k:Out→Option Out) (r:Out),yP c J p bid b δ k=some r→∀Q,(∀e a w,Ta c B X w0 F0 V k r e a w→Q e a w)→b.wp P Q a w
 | .skip,p,bid,_,F,O,a,w,δ,hI,hV,k,r,hg,Q,hQ=>wp_skip (hQ _ _ _ ⟨⟨F,O,δ,hI,hg⟩,hV⟩)
 | .region id ops d,p,bid,hok,F,O,a,w,δ,hI,hV,k,r,hg,Q,hQ=>by
  simp only [eV,aik,aiy] at hok;have hq:∀a w,ki c B X w0 F0 V (fun δ=>k (.nrm δ)) r a w→Q .normal a w:=fun a w h=>hQ _ _ _ h
  cases d
  ·exact wp_region_list (Fk hT hS hq ops.toList hok.1 F O a w δ hI hV hg)
  ·exact RK hT hS (by simpa using hok.2) hm hq hok.1 hI hV hg id
 | .seq x y,p,bid,hok,F,O,a,w,δ,hI,hV,k,r,hg,Q,hQ=>by
  simp only [eV,aik] at hok;simp only [yP] at hg;cases hH:eo J p with
  | none =>
   rw [hH] at hg;refine wp_seq (iH hT hS hm hJ x _ bid hok.1 F O a w δ hI hV _ r hg _ (fun e a' w' hp=>?_))
   cases e with
   | normal =>
    obtain⟨⟨F',O',δ',hI',hk'⟩,hV'⟩:=hp;exact iH hT hS hm hJ y _ bid hok.2 F' O' a' w' δ' hI' hV' k r hk' Q hQ
   | exit id=>exact hQ _ _ _ hp
   | ret=>exact hQ _ _ _ hp
   | _=>exact hp.elim
  | some hl =>
   rw [hH] at hg;simp only [ga] at hg;have hlive:=acg hJ hH;refine wp_seq (iH hT hS hm hJ x _ bid hok.1 F O a w δ hI hV _ r hg _ (fun e a' w' hp=>?_))
   cases e with
   | normal =>
    obtain⟨⟨F',O',δ',hI',hk'⟩,hV'⟩:=hp;simp only [adU,ch,mu] at hk';exact iH hT hS hm hJ y _ bid hok.2 F' O' a' w' _ (hI'.carry hlive) hV' k r hk' Q hQ
   | exit id=>exact hQ _ _ _ hp
   | ret=>exact hQ _ _ _ hp
   | _=>exact hp.elim
 | .cond x t e,p,bid,hok,F,O,a,w,δ,hI,hV,k,r,hg,Q,hQ=>by
  simp only [eV,aik] at hok;obtain⟨⟨hlv,hok1⟩,hok2⟩:=hok;have hop:=hI.opd (cR.1 hlv);have key:ifD (opD δ x) (yP c J (aiw 2 p) bid t δ k) (yP c J (ai4 (aiw 2 p) 1) bid e δ k)=some r:=by
   simp only [yP] at hg;cases x with
   | tmp s=>simpa only [opC,fy,opD] using hg
   | const v=>simpa only [opC,opD] using hg
   | func f=>simpa only [opC,opD] using hg
   | global g=>simp [opC] at hg
  unfold ifD at key;split at key
  ·rename_i hd
   rw [hd] at hop;exact wp_cond_true (bJ hop).1 (iH hT hS hm hJ t _ bid hok1 F O a w δ hI hV k r key Q hQ)
  ·rename_i hd
   rw [hd] at hop;exact wp_cond_false (bJ hop).1 (iH hT hS hm hJ e _ bid hok2 F O a w δ hI hV k r key Q hQ)
  ·cases key
 | .block id b,p,bid,hok,F,O,a,w,δ,hI,hV,k,r,hg,Q,hQ=>by
  simp only [eV] at hok;refine wp_block (iH hT hS hm hJ b _ id hok F O a w δ hI hV _ r hg _ (fun e a' w' hp=>?_))
  cases e with
  | normal=>exact hQ .normal _ _ hp
  | exit i =>
   simp only [Exit.inBlock];have hp':ki c B X w0 F0 V (fun δ=>Lk id (.ext i δ) k) r a' w':=hp;split
   ·rename_i hi
    refine hQ .normal _ _ (iY hp' fun δ F O _ h=>?_)
    simp only [Lk] at h;rw [bd.2 (by simpa using hi)] at h;exact h
   ·rename_i hi
    refine hQ (.exit i) _ _ (iY hp' fun δ F O _ h=>?_)
    simp only [Lk] at h;cases hb:aiV i id
    ·rw [hb] at h;exact h
    ·exact absurd (by simpa using bd.1 hb) hi
  | ret=>exact hQ .ret _ _ hp
  | _=>exact hp.elim
 | .loop b,p,bid,hok,F,O,a,w,δ,hI,hV,k,r,hg,Q,hQ=>by
  simp only [eV,aik] at hok;obtain⟨hok1,hok2⟩:=hok;simp only [yP] at hg;cases hH:eo c.H bid with
  | none=>rw [hH] at hg;cases hg
  | some hx =>
   obtain⟨hl,xl⟩:=hx;rw [hH] at hg hok2;simp only [aik] at hok2;simp only [ch] at hg;obtain⟨o',h1,h2⟩:=ais.1 hg;unfold aZ at h1;split at h1
   case isFalse=>cases h1
   rename_i hex;refine wp_loop_rounds (aiz hex) ?_
   refine Gv (hl:=hl) (xl:=xl) hok2.1 hok2.2 (fun F O a w δ hI hV k r hg Q hQ=>iH hT hS hm hJ b _ bid hok1 F O a w δ hI hV k r hg Q hQ) hQ h2 _ F O a w δ hI hV h1
 | .exit id,p,bid,_,F,O,a,w,δ,hI,hV,k,r,hg,Q,hQ=>wp_exit (hQ _ _ _ ⟨⟨F,O,δ,hI,hg⟩,hV⟩)
 | .ret,p,bid,_,F,O,a,w,δ,hI,hV,k,r,hg,Q,hQ=>wp_ret (hQ _ _ _ ⟨⟨F,O,δ,hI,hg⟩,hV⟩)
 | .label _,_,_,hok,_,_,_,_,_,_,_,_,_,_,_,_=>by simp [eV] at hok
 | .goto _,_,_,hok,_,_,_,_,_,_,_,_,_,_,_,_=>by simp [eV] at hok
 | .scope _,_,_,hok,_,_,_,_,_,_,_,_,_,_,_,_=>by simp [eV] at hok
theorem aaI (hT:okT P c.T=true) (hS:∀f S,eo c.S f=some S→aw c.G P f S) (hm:P.follows .mixedOrders=true) {J:List (Nat × List Nat)} (hJ:okJ c J=true) {f:FuncId} {fn:Func} (hf:P.funcs[f]?=some fn) {pm rm:List Kd} (hok:Xz c fn pm rm=true) (hres:c.res=fn.results.toList)
  {ds rs us:List D} (hd:CF c J fn ds=some (.ret rs us)) {args:Array Value} {w:World} {F:Nat→Prop} {ow:Nat→Option Nat} (hgl:gOk c.G w F) (ha:fC w F ow 0 pm ds args.toList) (hF:∀b,F b→b<w.heap.size∧ow b=none) (hO:∀b i,ow b=some i→b<w.heap.size) :
  Calls P f args w fun e w'=>∃v,e = .returned v∧∃F' R vs,v=lf vs∧CallPost {pm:=pm,rm:=rm,f:=CF c J fn} args rs us w F ow F' R vs w':=by
 unfold Xz at hok;simp only [aik,decide_eq_true_eq] at hok;obtain⟨⟨⟨⟨⟨hcode,hlenK⟩,hpre⟩,hpm⟩,hokr⟩,hios⟩:=hok;rw [bd,oQ] at hlenK;obtain⟨hpl,hpn⟩:=BK hpre;obtain⟨hdl,hal,hargs⟩:=BS pm ds args.toList 0 ha;have hasz:args.size=pm.length:=by simpa using hal
 unfold CF at hd;cases hb:fn.body with
 | none=>rw [hb] at hd;cases hd
 | some b =>
  rw [hb] at hd hcode;simp only at hd hcode;refine calls_of_wp hf hb ?_
  have hav:∀s,s<pm.length→av ({tmps:=args++aio (fn.ntmps - args.size) undef,defers:=[]}:Act) s=args.toList.getD s undef:=fun s hs=>by
   have h1:s<args.size:=by omega
   simp only [av,aiE,aiq,aiP];rw [aiG h1]
  have hinit:Inv c w.heap.size (fun b=>ow b≠none) w F F (fun b=>(ow b).map fun i=>(i,0)) {tmps:=args++aio (fn.ntmps - args.size) undef,defers:=[]} w (vV fn.ntmps ds):=by
   refine⟨by simp;omega,by rw [vk,hlenK],rfl,fun s=>?_,fun b hb=>⟨(hF b hb).1,by simp [(hF b hb).2]⟩,fun b p hp=>?_,fun _ h=>h,fun _ h=>.inl h,aiN _,rfl,rfl,rfl,fun _ _ _=>rfl,hgl⟩
   ·unfold Fa
    rw [vH _ _ _ (by rw [hdl];omega)];by_cases hs:s<pm.length
    ·rw [hpn s hs,hav s hs]
     rcases hargs s hs with hbad | harg
     ·exact .inl hbad
     refine .inr ?_
     have hlv:∀lv,lv≠1→∀b,FB F 0 lv b→FB F w.heap.size lv b:=fun lv h1 b hb=>by
      match lv,h1 with
      | 0,_=>exact hb
      | _+2,_=>exact hb
     rcases xe hpm s hs with ⟨lv,hk,h1⟩ | ⟨z,lv,hk,h1⟩ | ⟨n,lv,hk,h1⟩
     ·rw [hk] at harg ⊢
      exact .inr (cq (hlv lv h1) (fun _ _=>rfl) harg)
     ·rw [hk] at harg ⊢
      exact .inr (eE (hlv lv h1) (fun _ _=>rfl) (fun g _ hg=>⟨⟨by simp only [aiu] at hg;simp [hg],fun h=>by cases h⟩,rfl⟩) harg)
     ·rw [hk] at harg ⊢
      exact .inr (mj (hlv lv h1) (fun _ _=>rfl) (fun g _ hg=>⟨⟨by simp only [aiu] at hg;simp [hg],fun h=>by cases h⟩,rfl⟩) harg)
    ·refine .inl ?_
     rw [iS,aiq,aiQ (by omega)];rfl
   ·obtain⟨i,hi,rfl⟩:=aix.1 hp
    exact⟨hO b i hi,.inr (by rw [hi];simp)⟩
  refine iH hT hS hm hJ b 1 0 hcode F _ _ w _ hinit (V:=av {tmps:=args++aio (fn.ntmps - args.size) undef,defers:=[]}) (fun _ _=>rfl) _ _ hd _ (fun e a' w' hp=>?_)
  have fin:ki c w.heap.size (fun b=>ow b≠none) w F (av {tmps:=args++aio (fn.ntmps - args.size) undef,defers:=[]}) (fun δ=>WL c δ some) (.ret rs us) a' w'→a'.defers=[]∧∃v,(results fn a'.tmps).run P w' = .ok v w'∧∃v',aiZ v = .returned v'∧∃F' R vs,v'=lf vs∧CallPost {pm:=pm,rm:=rm,f:=CF c J fn} args rs us w F ow F' R vs w':=by
   rintro⟨⟨F',O',δ',hI',hk⟩,hV'⟩;obtain⟨rs',h1,h2,h3⟩:=hP hk;simp only [ail,Out.ret.injEq] at h3;obtain⟨rfl,rfl⟩:=h3;obtain⟨vs,g1,g2,g3,g4⟩:=BG (P:=P) hT hI' c.res rm rs' hokr h1;refine⟨hI'.df,lf vs,?_,_,rfl,F',fun b=>if w.heap.size≤b then(match O' b with
    | some (t,0)=>DT c.res t 0
    | _=>none) else none,vs,rfl,?_⟩
   ·have hrun:(fn.results.mapM (sE a'.tmps)).run P w' = .ok vs.toArray w':=by
     rw [aiJ,←hres];simp [g1]
    have hrw:results fn a'.tmps=(do
      let vs ←fn.results.mapM (sE a'.tmps)
      pure (if h:vs.size=1 then vs[0] else .tuple vs)):=by
     unfold results;congr 1
    rw [hrw];simp only [Sem.run_bind,hrun,aiW,Sem.run_pure];congr 1
    rcases vs with _ | ⟨y,_ | ⟨y',vs⟩⟩
    ·simp [lf]
    ·simp [lf]
    ·simp [lf]
   ·refine⟨hI'.os,hI'.tape,hI'.output,hI'.bb,fun b hb ho=>hI'.keep b hb (by simp [ho]),hI'.f0,fun b hb=>⟨hI'.fn b hb,(hI'.fl b hb).1,by simp only [(hI'.fl b hb).2];split<;>rfl⟩,fun b j hj=>?_,g2,g3,fun j=>?_,?_⟩
    ·split at hj
     case isFalse=>cases hj
     rename_i hB;refine⟨hB,?_⟩
     split at hj
     ·rename_i t he;exact(hI'.ol b _ he).1
     ·cases hj
    ·refine oC (fun hk g hg=>?_) (g4 j)
     obtain⟨z,lv,hk⟩:=hk;obtain⟨e1,t,e2,e3⟩:=hg;rw [if_pos e1];simp only [e3];have:=(rK c.res rm hokr j t 0 z lv hk e2).1;simpa using this
    ·rw [hios]
     refine LR pm args.toList 0 hal (fun j hj hio=>?_)
     rw [aiu];have hkj:=hpn j hj;have hbj:nth δ' j ≠ .bad:=by
      refine h2 _ ?_
      rw [hios,sB];exact aiT (by simpa using BD pm 0 j hj hio)
     have havj:av a' j=args.toList.getD j undef:=(hV' j (by rw [hkj];exact hio)).trans (hav j hj);have hlv:∀lv,lv≠1→∀b,FB F' w.heap.size lv b→FB F' 0 lv b:=fun lv h1 b hb=>by
      match lv,h1 with
      | 0,_=>exact hb
      | _+2,_=>exact hb
     refine⟨hbj,.inr ?_⟩
     rcases xe hpm j hj with ⟨lv,hk,h1⟩ | ⟨z,lv,hk,h1⟩ | ⟨n,lv,hk,h1⟩
     ·rw [hk] at hio;cases hio
     ·have h5:=hI'.own (hkj.trans hk) hbj
      rw [havj] at h5;rw [hk];exact eE (hlv lv h1) (fun _ _=>rfl) (fun _ _ _=>⟨trivial,rfl⟩) h5
     ·have h5:=hI'.box (hkj.trans hk) hbj
      rw [havj] at h5;rw [hk];exact mj (hlv lv h1) (fun _ _=>rfl) (fun _ _ _=>⟨trivial,rfl⟩) h5
  cases e with
  | normal=>exact fin hp
  | exit i =>
   obtain⟨⟨_,_,_,_,h⟩,_⟩:=hp;cases h
  | ret =>
   refine fin (iY hp fun δ F O _ h=>?_)
   obtain⟨rs',h1,h2,h3⟩:=hP h;exact BT h1 h2 h3
  | _=>exact hp.elim
theorem Jk (hT:okT P c.T=true) (hS:∀f S,eo c.S f=some S→aw c.G P f S) (hm:P.follows .mixedOrders=true) {J:List (Nat × List Nat)} (hJ:okJ c J=true) {f:FuncId} {fn:Func} (hf:P.funcs[f]?=some fn) (hname:(fn.name=="runtime.NumGoroutine")=false) {pm rm:List Kd} (hok:Xz c fn pm rm=true) (hres:c.res=fn.results.toList) :
  aw c.G P f {pm:=pm,rm:=rm,f:=CF c J fn}:=by
 intro ds rs us hd args w F ow hgl ha hF hO o a next Q hn
 have hbody:∃b,fn.body=some b:=by
  have hd':CF c J fn ds=some (.ret rs us):=hd;unfold CF at hd';cases hb:fn.body with
  | none=>rw [hb] at hd';cases hd'
  | some b=>exact⟨b,rfl⟩
 obtain⟨b,hb⟩:=hbody;have hrun:(callFunc f args).run P w = .ok (.enter f args) w:=by
  have h1:¬fn.name="runtime.NumGoroutine":=by simpa using hname
  simp [callFunc,hf,h1,hb]
 rw [hrun,aiA];refine aiI (aaI hT hS hm hJ hf hok hres hd hgl ha hF hO) (fun e w' he=>?_)
 obtain⟨v,rfl,F',R,vs,h1,h2⟩:=he;exact hn v w' ⟨F',R,vs,h1,h2⟩
end
end Go.V

end
