/-
  A part of the proof: contracts and plain forms of functions beneath the statement, made small by a program (names shortened, what is not needed left out).
-/
import Derived.Test.YtjafgdefcggjcaaGreatDoorRows
import Derived.Test.YtjafgdefcggjcaaGreatDoorTie
import Derived.Test.YtjafgdefcggjcaaGreatDoorCards
import Derived.Test.YtjafgdefcggjcaaGreatDoorM3
import Derived.Shelf.Strings.FieldsFuncGrows
import Derived.ProofKit
import Derived.ChangeArms
import Derived.Stop.LaidErr
import Derived.Deep.DeepHandedRow
import Derived.Deep.DeepWitnessRowRef
import Derived.LaidMore
import Derived.MakeChecks
import Derived.Shelf.Vars
import Derived.JoinedCond
open Bool renaming and_eq_true → aiT, false_eq_true → aiV, not_false → ajC
open Option.some renaming injEq → aiU
open List renaming getElem?_eq_some_iff → aiW, getD_eq_getElem?_getD → aiZ, getElem?_eq_getElem → ai0, mem_append → ai2, all_eq_true → ai7, mem_append_left → aja, not_mem_nil → ajk, getElem?_cons_zero → ajl, getElem?_eq_none → ajp, mem_cons → ajq, getD_cons_zero → ajr, mem_map_of_mem → ajs, length_map → ajx, drop_zero → ajA, replicate → ajB
open Array renaming replicate → aiX, getD_eq_getD_getElem? → ajd, getElem?_eq_some_iff → aje, getElem?_append_left → ajf, mapM_eq_mapM_toList → aji, getElem?_toList → ajo
open Go.Shelf renaming Ren → aiY
open Option renaming bind_eq_some_iff → ai1, map_eq_some_iff → ai6, isSome_iff_exists → ajj
open Nat renaming zero_add → ai3, mul → ai5, le_refl → ajm, beq → aju, add → ajD
open Go.DataW renaming TrodAll → ai4
open Classical renaming choose → ai8
open Go.Oper renaming upon_enter → ai9
open Go.Value renaming okWide → ajb
open Go.Proofs renaming enters_of → ajc
open Int renaming toNat_natCast → ajg
open Go.Calls renaming mono → ajh
open Go.IntKind renaming i64 → ajn
open Go.Lib renaming pow10Tab → ajt, TabIs → ajE
open Go.Result renaming andThen_ok → ajv
open List.cons renaming injEq → ajw
open Go.Ending renaming returned → ajy
open Go.Act renaming put → ajz
set_option maxRecDepth 100000
set_option linter.unusedSimpArgs false
set_option linter.unusedVariables false
noncomputable section
namespace Go.V
open Go.RowKit Go.Shelf
section
variable {P:Program} {ρ:Ren} {G:List (Nat × (Obj→Prop))}
def gC:List D→Option (List ByteArray)
 | []=>some []
 | .v (.string s)::l=>(gC l).map (s::·)
 | _=>none
theorem Lz:∀(l:List D) (xs:List ByteArray),gC l=some xs→l=xs.map T
 | [],xs,h=>by simp [gC] at h;subst h;rfl
 | .v (.string s)::l,xs,h=>by
  simp only [gC] at h;obtain⟨ys,h1,rfl⟩:=ai6.1 h;rw [Lz l ys h1];rfl
 | .v (.bool _)::_,_,h=>by simp [gC] at h
 | .v (.int _ _)::_,_,h=>by simp [gC] at h
 | .arr _ _::_,_,h=>by simp [gC] at h
 | .agg _::_,_,h=>by simp [gC] at h
 | .ptr _::_,_,h=>by simp [gC] at h
 | .clo _ _::_,_,h=>by simp [gC] at h
 | .ifc::_,_,h=>by simp [gC] at h
 | .tup _::_,_,h=>by simp [gC] at h
 | .ref _ _::_,_,h=>by simp [gC] at h
 | .bad::_,_,h=>by simp [gC] at h
theorem BN:∀(xs:List ByteArray),gC (xs.map T)=some xs
 | []=>rfl
 | x::xs=>by simp [gC,BN xs]
theorem DM {w:World} {F:Nat→Prop}:∀(xs:List ByteArray) (us:List Value),cm w F (xs.map T) us→us=xs.map Value.string
 | [],us,h=>aZ.1 h
 | x::xs,us,h=>by
  obtain⟨v1,v2,rfl,h1,h2⟩:=ax.1 h;simp only [RepC] at h1;rw [DM xs v2 h2,h1.1];rfl
def qC (xs:List ByteArray) (sep:ByteArray):ByteArray:=⟨(Lib.join (xs.map (·.data.toList)) sep.data.toList).toArray⟩
def El:List D→Option Out
 | [.arr _ l,.v (.string sep)]=>(gC l).bind fun xs=>if xs.length≤140737488355328∧(qC xs sep).size≤140737488355328 then some (.ret [T (qC xs sep)] []) else none
 | _=>none
@[reducible] def aek:FS:={pm:=[.dat 2,.dat 0],rm:=[.dat 0],f:=El}
theorem ag6 (L:Go.Proofs.Lays.n156 P ρ) (X:Go.Proofs.Builder.Extra P ρ) {f:Nat} (hf:ρ.f 156=f):au G P f aek:=by
 subst hf;have he:∀args w,(callFunc (ρ.f 156) args).run P w = .ok (.enter (ρ.f 156) args) w:=ajc L.f156 (by kernel_rfl) rfl;refine cd he fun ds rs us hd args w F ow hg ha hF _=>?_
 obtain⟨d,y,d',y',rfl,h2,h3,h4⟩:=wU ha;replace hd:El [d,d']=some (.ret rs us):=hd;unfold El at hd;split at hd
 case h_2=>cases hd
 rename_i z l sep e;cases e;obtain⟨xs,hx,hd⟩:=ai1.1 hd;split at hd
 case isFalse=>cases hd
 rename_i hz;cases hd;obtain rfl:=Lz _ _ hx;obtain⟨rfl,_⟩:=Fk h4;rcases h3 with h3 | h3
 ·cases h3
 simp only [bU,RepC] at h3;obtain⟨A,c,us,hy,hc,hr,_,hA⟩:=h3;simp only [ajw,and_true] at hy;subst hy;have hus:=DM xs us hr;subst hus;rw [SF h2];by_cases hne:xs=[]
 ·subst hne
  refine(Go.Proofs.Any.strings_Join_none L X A c sep w).mono ?_
  rintro e w' ⟨rfl,rfl⟩;refine⟨_,rfl,F,_,[_],rfl,fm (Below.refl _ _) hF rfl rfl [_] [_] rfl rfl fun j d hj=>?_⟩
  match j,hj with
  | 0,hj =>
   simp only [ajl,aiU] at hj;subst hj;exact⟨_,rfl,ct.2 ⟨rfl,rfl⟩⟩
 ·obtain⟨b,o,rfl,hFb,hcells⟩:=hA (by simpa using hne)
  rw [ajx] at hc ⊢;refine(Go.Proofs.Any.strings_Join L X b o c xs sep w (fun j x hj=>hcells j _ (by simp [hj])) (hF b hFb).1 hz.1 hc (by simpa [qC,ByteArray.size] using hz.2)).mono ?_
  rintro e w' ⟨rfl,hB⟩;refine⟨_,rfl,F,_,[_],rfl,fm hB hF rfl rfl [_] [_] rfl rfl fun j d hj=>?_⟩
  match j,hj with
  | 0,hj =>
   simp only [ajl,aiU] at hj;subst hj;exact⟨_,rfl,ct.2 ⟨rfl,rfl⟩⟩
theorem mh {f:FuncId} {S:FS} (he:∀args w,(callFunc f args).run P w = .ok (.enter f args) w) (hm:au G P f S) {ds rs us:List D} (hd:S.f ds=some (.ret rs us)) {args:Array Value} {w:World} {F:Nat→Prop} {ow:Nat→Option Nat}
  (hgl:gOk G w F) (ha:fB w F ow 0 S.pm ds args.toList) (hF:∀b,F b→b<w.heap.size∧ow b=none) (hO:∀b i,ow b=some i→b<w.heap.size) :
  Calls P f args w fun e w'=>∃v,e = .returned v∧∃F' R vs,v=lA vs∧CallPost S args rs us w F ow F' R vs w':=by
 have h2:=hm ds rs us hd args w F ow hgl ha hF hO {(default:Oper) with dst:=some 0} {tmps:=#[undef],defers:=[]} (fun a w'=>∃F' R vs,a.tmps.getD 0 undef=lA vs∧CallPost S args rs us w F ow F' R vs w') (fun _ _ _=>False) (fun v w' h=>by
  obtain⟨F',R,vs,rfl,h⟩:=h;exact⟨F',R,vs,by simp [ajz],h⟩)
 rw [he,ai9] at h2;refine ajh h2 fun e w' he=>?_
 cases e with
 | returned v =>
  obtain⟨F',R,vs,h3,h4⟩:=he;exact⟨v,rfl,F',R,vs,by simpa [ajz] using h3,h4⟩
 | panicked c=>exact he.elim
 | outgrown=>obtain⟨_,_,h⟩:=he;exact h.elim
def mS (k:Nat) (p:Nat→Bool):List D→Option Out
 | [.v (.string s),.clo k' []]=>if k'=k∧s.size≤4294967296 then some (.ret [.arr 1 ((Lib.goFieldsP p s).map T)] []) else none
 | _=>none
@[reducible] def Io (k:Nat) (p:Nat→Bool):FS:={pm:=[.dat 0,.dat 2],rm:=[.own 1 0 false],f:=mS k p}
theorem Um (L:Go.Proofs.Lays.n229 P ρ) {f:Nat} (hf:ρ.f 229=f) {k:Nat} {Sk:FS} (ek:∀args w,(callFunc k args).run P w = .ok (.enter k args) w) (Mk:au G P k Sk) {p:Nat→Bool} (hpm:Sk.pm=[.dat 0]) (hrm:Sk.rm=[.dat 0])
  (hp:∀x:Nat,x≤1114111→Sk.f [.v (.int .i32 x)]=some (.ret [B (p x)] []))
  (hi154:(P.info? (ρ.t 154)).map (fun i=>(i.zero,i.size,i.bytes))=some (some (.agg #[.int .i64 0,.int .i64 0]),2,16))
  (hi9:(P.info? (ρ.t 9)).map (fun i=>(i.zero,i.size,i.bytes))=some (some (.string ⟨#[]⟩),1,16)):au G P f (Io k p):=by
 subst hf;have he:∀args w,(callFunc (ρ.f 229) args).run P w = .ok (.enter (ρ.f 229) args) w:=ajc L.f229 (by kernel_rfl) rfl;refine cd he fun ds rs us hd args w F ow hg ha hF _=>?_
 obtain⟨d,y,d',y',rfl,h2,h3,h4⟩:=wU ha;replace hd:mS k p [d,d']=some (.ret rs us):=hd;unfold mS at hd;split at hd
 case h_2=>cases hd
 rename_i s k' e;cases e;split at hd
 case isFalse=>cases hd
 rename_i hz;obtain⟨rfl,hz⟩:=hz;cases hd;obtain⟨rfl,_⟩:=Fk h3;rcases h4 with h4 | h4
 ·cases h4
 simp only [bU,RepC] at h4;obtain⟨us,hy,hr⟩:=h4;rw [aZ.1 hr] at hy;simp only [ajw,and_true] at hy;subst hy;rw [SF h2];have hpred:Go.Proofs.PredGrows P k' #[] p w:=by
  intro W x hx hB;refine(mh ek Mk (hp x hx) (args:=#[Go.Proofs.encR x]++#[]) (w:=W) (F:=F) (ow:=fun _=>none) (iu (fun _ h=>h) (fun b hb=>hB.block b (hF b hb).1) hg) ?_ (fun b hb=>⟨Nat.lt_of_lt_of_le (hF b hb).1 hB.size,rfl⟩) (fun b i h=>by cases h)).mono ?_
  ·rw [hpm]
   exact⟨.inr (ct.2 ⟨rfl,rfl⟩),trivial⟩
  ·rintro e w' ⟨v,rfl,F',R,vs,rfl,hpost⟩
   have hl:=hpost.len;rw [hrm] at hl;obtain⟨u,rfl⟩:=List.length_eq_one_iff.1 hl;have h0:=hpost.res 0;rw [hrm] at h0;simp only [aD,nth,ajr] at h0;rcases h0 with h0 | h0
   ·cases h0
   exact⟨by rw [lA,(ct.1 h0).1],⟨hpost.os,hpost.tape,hpost.output,hpost.size,fun b hb=>hpost.keep b hb rfl⟩⟩
 refine(Go.Proofs.Any.strings_FieldsFunc_grows L k' #[] ek p s w hz hpred hi154 hi9).mono ?_
 rintro e w' ⟨A,rfl,hA,hown,hB⟩;obtain⟨_,hown⟩:=hown;rcases hown with ⟨h,_⟩ | ⟨g,cap,cur,h5,h6,h7,h8,_,h10,h11⟩
 ·cases h
 cases h5;refine⟨_,rfl,F,fun b=>if b=A then some 0 else none,[_],rfl,NW _ hB hF (fun b j hb=>?_) rfl rfl rfl rfl fun j=>?_⟩
 ·split at hb
  ·rename_i e;subst e;exact⟨hA,(aje.1 h7).1⟩
  ·cases hb
 ·match j with
  | 0 =>
   refine .inr (OI (A:=A) h7 h8 (by omega) (fun i u hu=>?_) ⟨by simp,hA⟩)
   rw [←h11,List.getElem?_take] at hu;split at hu
   ·simpa using hu
   ·cases hu
  | j+1=>exact .inl rfl
end
end Go.V

namespace Go.Proofs
open Go.Shelf
def Tryz.lays156_ren:aiY:=⟨fun | 156=>183 | 165=>219 | 166=>43 | 169=>44 | 240=>59 | 241=>239 | 276=>81 | 277=>249 | n=>n,fun | 31=>62 | 9=>9 | 3=>3 | 4=>4 | 0=>0 | 20=>20 | 72=>67 | 76=>70 | 70=>65 | 37=>43 | 75=>69 | 127=>88 | 164=>111 | 5=>5 | 80=>72 | n=>n,fun | n=>n⟩
theorem Tryz.lays156:Go.Proofs.Lays.n156 Tryz.prog Tryz.lays156_ren:={
 mixed:=by kernel_rfl
 f156:=Tryz.func183.trans (congrArg some (by kernel_rfl))
 f165:=Tryz.func219.trans (congrArg some (by kernel_rfl))
 f166:=Tryz.func43.trans (congrArg some (by kernel_rfl))
 f169:=Tryz.func44.trans (congrArg some (by kernel_rfl))
 f240:=Tryz.func59.trans (congrArg some (by kernel_rfl))
 f241:=Tryz.func239.trans (congrArg some (by kernel_rfl))
 f276:=Tryz.func81.trans (congrArg some (by kernel_rfl))
 f277:=Tryz.func249.trans (congrArg some (by kernel_rfl))
 t0:=Tryz.underlying0
 a0:=Tryz.isAgg0
 z0:=Tryz.sizeOf0
 v0:=Tryz.zeroValue0
 t3:=Tryz.underlying3
 a3:=Tryz.isAgg3
 z3:=Tryz.sizeOf3
 v3:=Tryz.zeroValue3
 t4:=Tryz.underlying4
 a4:=Tryz.isAgg4
 z4:=Tryz.sizeOf4
 v4:=Tryz.zeroValue4
 t9:=Tryz.underlying9
 a9:=Tryz.isAgg9
 z9:=Tryz.sizeOf9
 v9:=Tryz.zeroValue9
 t20:=Tryz.underlying20
 a20:=Tryz.isAgg20
 z20:=Tryz.sizeOf20
 v20:=Tryz.zeroValue20
 t31:=Tryz.underlying62
 a31:=Tryz.isAgg62
 z31:=Tryz.sizeOf62
 v31:=Tryz.zeroValue62
 t37:=Tryz.underlying43
 a37:=Tryz.isAgg43
 z37:=Tryz.sizeOf43
 v37:=Tryz.zeroValue43
 t70:=Tryz.underlying65
 a70:=Tryz.isAgg65
 z70:=Tryz.sizeOf65
 v70:=Tryz.zeroValue65
 t72:=Tryz.underlying67
 a72:=Tryz.isAgg67
 z72:=Tryz.sizeOf67
 v72:=Tryz.zeroValue67
 t75:=Tryz.underlying69
 a75:=Tryz.isAgg69
 z75:=Tryz.sizeOf69
 v75:=Tryz.zeroValue69
 t76:=Tryz.underlying70
 a76:=Tryz.isAgg70
 z76:=Tryz.sizeOf70
 v76:=Tryz.zeroValue70
 t127:=Tryz.underlying88
 a127:=Tryz.isAgg88
 z127:=Tryz.sizeOf88
 v127:=Tryz.zeroValue88
 t164:=Tryz.underlying111
 a164:=Tryz.isAgg111
 z164:=Tryz.sizeOf111
 v164:=Tryz.zeroValue111}
theorem Tryz.Builder_Extra_156:Builder.Extra Tryz.prog Tryz.lays156_ren:={
 sizeBuilder:=by kernel_rfl
 liesBuilder:=by kernel_rfl
 t5:=Tryz.underlying5
 a5:=Tryz.isAgg5
 z5:=Tryz.sizeOf5
 v5:=Tryz.zeroValue5
 infoByte:=by kernel_rfl
 cellsByte:=by kernel_rfl
 sizeByte:=by kernel_rfl
 neB5:=by decide}
def Tryz.laysM171_ren:aiY:=⟨fun | 171=>117 | 243=>162 | 246=>198 | 283=>227 | 284=>228 | 285=>229 | 286=>230 | 129=>243 | 317=>242 | 318=>244 | 319=>245 | 320=>246 | 337=>250 | 338=>251 | n=>n,fun | 3=>3 | 9=>9 | 2=>2 | 4=>4 | 171=>205 | 0=>0 | 53=>79 | 37=>43 | 5=>5 | 173=>208 | 212=>230 | 51=>218 | 20=>20 | 213=>231 | 46=>113 | 232=>240 | 233=>241 | n=>n,fun | 17=>5 | 18=>6 | 19=>7 | n=>n⟩
theorem Tryz.laysM171:Go.Proofs.LaysM.n171 Tryz.prog Tryz.laysM171_ren:={
 mixed:=by kernel_rfl
 f129:=Tryz.func243.trans (congrArg some (by kernel_rfl))
 f171:=Tryz.func117.trans (congrArg some (by kernel_rfl))
 f243:=Tryz.func162.trans (congrArg some (by kernel_rfl))
 f246:=Tryz.func198.trans (congrArg some (by kernel_rfl))
 f283:=Tryz.func227.trans (congrArg some (by kernel_rfl))
 f284:=Tryz.func228.trans (congrArg some (by kernel_rfl))
 f285:=Tryz.func229.trans (congrArg some (by kernel_rfl))
 f286:=Tryz.func230.trans (congrArg some (by kernel_rfl))
 f317:=Tryz.func242.trans (congrArg some (by kernel_rfl))
 f318:=Tryz.func244.trans (congrArg some (by kernel_rfl))
 f319:=Tryz.func245.trans (congrArg some (by kernel_rfl))
 f320:=Tryz.func246.trans (congrArg some (by kernel_rfl))
 f337:=Tryz.func250.trans (congrArg some (by kernel_rfl))
 f338:=Tryz.func251.trans (congrArg some (by kernel_rfl))
 t0:=Tryz.underlying0
 a0:=Tryz.isAgg0
 z0:=Tryz.sizeOf0
 v0:=Tryz.zeroValue0
 t2:=Tryz.underlying2
 a2:=Tryz.isAgg2
 z2:=Tryz.sizeOf2
 v2:=Tryz.zeroValue2
 t3:=Tryz.underlying3
 a3:=Tryz.isAgg3
 z3:=Tryz.sizeOf3
 v3:=Tryz.zeroValue3
 t4:=Tryz.underlying4
 a4:=Tryz.isAgg4
 z4:=Tryz.sizeOf4
 v4:=Tryz.zeroValue4
 t5:=Tryz.underlying5
 a5:=Tryz.isAgg5
 z5:=Tryz.sizeOf5
 v5:=Tryz.zeroValue5
 t9:=Tryz.underlying9
 a9:=Tryz.isAgg9
 z9:=Tryz.sizeOf9
 v9:=Tryz.zeroValue9
 t20:=Tryz.underlying20
 a20:=Tryz.isAgg20
 z20:=Tryz.sizeOf20
 v20:=Tryz.zeroValue20
 t37:=Tryz.underlying43
 a37:=Tryz.isAgg43
 z37:=Tryz.sizeOf43
 v37:=Tryz.zeroValue43
 t46:=Tryz.underlying113
 a46:=Tryz.isAgg113
 z46:=Tryz.sizeOf113
 v46:=Tryz.zeroValue113
 t51:=Tryz.underlying218
 a51:=Tryz.isAgg218
 z51:=Tryz.sizeOf218
 v51:=Tryz.zeroValue218
 t53:=Tryz.underlying79
 a53:=Tryz.isAgg79
 z53:=Tryz.sizeOf79
 v53:=Tryz.zeroValue79
 t171:=Tryz.underlying205
 a171:=Tryz.isAgg205
 z171:=Tryz.sizeOf205
 v171:=Tryz.zeroValue205
 t173:=Tryz.underlying208
 a173:=Tryz.isAgg208
 z173:=Tryz.sizeOf208
 v173:=Tryz.zeroValue208
 t212:=Tryz.underlying230
 a212:=Tryz.isAgg230
 z212:=Tryz.sizeOf230
 v212:=Tryz.zeroValue230
 t213:=Tryz.underlying231
 a213:=Tryz.isAgg231
 z213:=Tryz.sizeOf231
 t232:=Tryz.underlying240
 a232:=Tryz.isAgg240
 z232:=Tryz.sizeOf240
 v232:=Tryz.zeroValue240
 t233:=Tryz.underlying241
 a233:=Tryz.isAgg241
 z233:=Tryz.sizeOf241
 v233:=Tryz.zeroValue241
 g17:=by kernel_rfl
 g18:=by kernel_rfl
 g19:=by kernel_rfl
 i0:=by kernel_rfl
 i2:=by kernel_rfl
 i3:=by kernel_rfl
 i4:=by kernel_rfl
 i5:=by kernel_rfl
 i9:=by kernel_rfl
 i20:=by kernel_rfl
 i37:=by kernel_rfl
 i46:=by kernel_rfl
 i51:=by kernel_rfl
 i53:=by kernel_rfl
 i171:=by kernel_rfl
 i173:=by kernel_rfl
 i212:=by kernel_rfl
 i232:=by kernel_rfl
 i233:=by kernel_rfl
 m17:=by kernel_rfl
 m18:=by kernel_rfl
 m19:=by kernel_rfl}
def Tryz.laysC172_ren:aiY:=⟨fun | 172=>116 | 244=>160 | 245=>161 | 247=>193 | 279=>194 | 280=>195 | 281=>196 | 282=>197 | 287=>224 | 316=>225 | 171=>117 | 205=>226 | 321=>240 | 322=>241 | 243=>162 | 246=>198 | 283=>227 | 284=>228 | 285=>229 | 286=>230 | 129=>243 | 317=>242 | 318=>244 | 319=>245 | 320=>246 | 337=>250 | 338=>251 | n=>n,fun | 9=>9 | 3=>3 | 75=>69 | 76=>70 | 4=>4 | 5=>5 | 167=>184 | 37=>43 | 0=>0 | 85=>185 | 2=>2 | 168=>187 | 53=>79 | 175=>200 | 46=>113 | 210=>203 | 127=>88 | 145=>228 | 143=>226 | 21=>21 | 171=>205 | 173=>208 | 212=>230 | 51=>218 | 20=>20 | 213=>231 | 232=>240 | 233=>241 | 80=>72 | n=>n,fun | 15=>1 | 16=>2 | 17=>5 | 18=>6 | 19=>7 | n=>n⟩
theorem Tryz.laysC172:Go.Proofs.LaysC.n172 Tryz.prog Tryz.laysC172_ren:={
 mixed:=by kernel_rfl
 f129:=Tryz.func243.trans (congrArg some (by kernel_rfl))
 f171:=Tryz.func117.trans (congrArg some (by kernel_rfl))
 f172:=Tryz.func116.trans (congrArg some (by kernel_rfl))
 f205:=Tryz.func226.trans (congrArg some (by kernel_rfl))
 f243:=Tryz.func162.trans (congrArg some (by kernel_rfl))
 f244:=Tryz.func160.trans (congrArg some (by kernel_rfl))
 f245:=Tryz.func161.trans (congrArg some (by kernel_rfl))
 f246:=Tryz.func198.trans (congrArg some (by kernel_rfl))
 f247:=Tryz.func193.trans (congrArg some (by kernel_rfl))
 f279:=Tryz.func194.trans (congrArg some (by kernel_rfl))
 f280:=Tryz.func195.trans (congrArg some (by kernel_rfl))
 f281:=Tryz.func196.trans (congrArg some (by kernel_rfl))
 f282:=Tryz.func197.trans (congrArg some (by kernel_rfl))
 f283:=Tryz.func227.trans (congrArg some (by kernel_rfl))
 f284:=Tryz.func228.trans (congrArg some (by kernel_rfl))
 f285:=Tryz.func229.trans (congrArg some (by kernel_rfl))
 f286:=Tryz.func230.trans (congrArg some (by kernel_rfl))
 f287:=Tryz.func224.trans (congrArg some (by kernel_rfl))
 f316:=Tryz.func225.trans (congrArg some (by kernel_rfl))
 f317:=Tryz.func242.trans (congrArg some (by kernel_rfl))
 f318:=Tryz.func244.trans (congrArg some (by kernel_rfl))
 f319:=Tryz.func245.trans (congrArg some (by kernel_rfl))
 f320:=Tryz.func246.trans (congrArg some (by kernel_rfl))
 f321:=Tryz.func240.trans (congrArg some (by kernel_rfl))
 f322:=Tryz.func241.trans (congrArg some (by kernel_rfl))
 f337:=Tryz.func250.trans (congrArg some (by kernel_rfl))
 f338:=Tryz.func251.trans (congrArg some (by kernel_rfl))
 t0:=Tryz.underlying0
 a0:=Tryz.isAgg0
 z0:=Tryz.sizeOf0
 v0:=Tryz.zeroValue0
 t2:=Tryz.underlying2
 a2:=Tryz.isAgg2
 z2:=Tryz.sizeOf2
 v2:=Tryz.zeroValue2
 t3:=Tryz.underlying3
 a3:=Tryz.isAgg3
 z3:=Tryz.sizeOf3
 v3:=Tryz.zeroValue3
 t4:=Tryz.underlying4
 a4:=Tryz.isAgg4
 z4:=Tryz.sizeOf4
 v4:=Tryz.zeroValue4
 t5:=Tryz.underlying5
 a5:=Tryz.isAgg5
 z5:=Tryz.sizeOf5
 v5:=Tryz.zeroValue5
 t9:=Tryz.underlying9
 a9:=Tryz.isAgg9
 z9:=Tryz.sizeOf9
 v9:=Tryz.zeroValue9
 t20:=Tryz.underlying20
 a20:=Tryz.isAgg20
 z20:=Tryz.sizeOf20
 v20:=Tryz.zeroValue20
 t21:=Tryz.underlying21
 a21:=Tryz.isAgg21
 z21:=Tryz.sizeOf21
 v21:=Tryz.zeroValue21
 t37:=Tryz.underlying43
 a37:=Tryz.isAgg43
 z37:=Tryz.sizeOf43
 v37:=Tryz.zeroValue43
 t46:=Tryz.underlying113
 a46:=Tryz.isAgg113
 z46:=Tryz.sizeOf113
 v46:=Tryz.zeroValue113
 t51:=Tryz.underlying218
 a51:=Tryz.isAgg218
 z51:=Tryz.sizeOf218
 v51:=Tryz.zeroValue218
 t53:=Tryz.underlying79
 a53:=Tryz.isAgg79
 z53:=Tryz.sizeOf79
 v53:=Tryz.zeroValue79
 t75:=Tryz.underlying69
 a75:=Tryz.isAgg69
 z75:=Tryz.sizeOf69
 v75:=Tryz.zeroValue69
 t76:=Tryz.underlying70
 a76:=Tryz.isAgg70
 z76:=Tryz.sizeOf70
 v76:=Tryz.zeroValue70
 t85:=Tryz.underlying185
 a85:=Tryz.isAgg185
 z85:=Tryz.sizeOf185
 v85:=Tryz.zeroValue185
 t127:=Tryz.underlying88
 a127:=Tryz.isAgg88
 z127:=Tryz.sizeOf88
 v127:=Tryz.zeroValue88
 t143:=Tryz.underlying226
 a143:=Tryz.isAgg226
 z143:=Tryz.sizeOf226
 v143:=Tryz.zeroValue226
 t145:=Tryz.underlying228
 a145:=Tryz.isAgg228
 z145:=Tryz.sizeOf228
 v145:=Tryz.zeroValue228
 t167:=Tryz.underlying184
 a167:=Tryz.isAgg184
 z167:=Tryz.sizeOf184
 v167:=Tryz.zeroValue184
 t168:=Tryz.underlying187
 a168:=Tryz.isAgg187
 z168:=Tryz.sizeOf187
 v168:=Tryz.zeroValue187
 t171:=Tryz.underlying205
 a171:=Tryz.isAgg205
 z171:=Tryz.sizeOf205
 v171:=Tryz.zeroValue205
 t173:=Tryz.underlying208
 a173:=Tryz.isAgg208
 z173:=Tryz.sizeOf208
 v173:=Tryz.zeroValue208
 t175:=Tryz.underlying200
 a175:=Tryz.isAgg200
 z175:=Tryz.sizeOf200
 v175:=Tryz.zeroValue200
 t210:=Tryz.underlying203
 a210:=Tryz.isAgg203
 z210:=Tryz.sizeOf203
 v210:=Tryz.zeroValue203
 t212:=Tryz.underlying230
 a212:=Tryz.isAgg230
 z212:=Tryz.sizeOf230
 v212:=Tryz.zeroValue230
 t213:=Tryz.underlying231
 a213:=Tryz.isAgg231
 z213:=Tryz.sizeOf231
 t232:=Tryz.underlying240
 a232:=Tryz.isAgg240
 z232:=Tryz.sizeOf240
 v232:=Tryz.zeroValue240
 t233:=Tryz.underlying241
 a233:=Tryz.isAgg241
 z233:=Tryz.sizeOf241
 v233:=Tryz.zeroValue241
 g15:=by kernel_rfl
 g16:=by kernel_rfl
 g17:=by kernel_rfl
 g18:=by kernel_rfl
 g19:=by kernel_rfl
 t80:=Tryz.underlying72
 a80:=Tryz.isAgg72
 z80:=Tryz.sizeOf72
 v80:=Tryz.zeroValue72
 i0:=by kernel_rfl
 i2:=by kernel_rfl
 i3:=by kernel_rfl
 i4:=by kernel_rfl
 i5:=by kernel_rfl
 i9:=by kernel_rfl
 i20:=by kernel_rfl
 i21:=by kernel_rfl
 i37:=by kernel_rfl
 i46:=by kernel_rfl
 i51:=by kernel_rfl
 i53:=by kernel_rfl
 i75:=by kernel_rfl
 i76:=by kernel_rfl
 i80:=by kernel_rfl
 i85:=by kernel_rfl
 i127:=by kernel_rfl
 i143:=by kernel_rfl
 i145:=by kernel_rfl
 i167:=by kernel_rfl
 i168:=by kernel_rfl
 i171:=by kernel_rfl
 i173:=by kernel_rfl
 i175:=by kernel_rfl
 i210:=by kernel_rfl
 i212:=by kernel_rfl
 i232:=by kernel_rfl
 i233:=by kernel_rfl
 m15:=by kernel_rfl
 m16:=by kernel_rfl
 m17:=by kernel_rfl
 m18:=by kernel_rfl
 m19:=by kernel_rfl
 c0:=by kernel_rfl
 c2:=by kernel_rfl
 c3:=by kernel_rfl
 c4:=by kernel_rfl
 c5:=by kernel_rfl
 c9:=by kernel_rfl
 c20:=by kernel_rfl
 c21:=by kernel_rfl
 c37:=by kernel_rfl
 c46:=by kernel_rfl
 c51:=by kernel_rfl
 c53:=by kernel_rfl
 c75:=by kernel_rfl
 c76:=by kernel_rfl
 c80:=by kernel_rfl
 c85:=by kernel_rfl
 c127:=by kernel_rfl
 c143:=by kernel_rfl
 c145:=by kernel_rfl
 c167:=by kernel_rfl
 c168:=by kernel_rfl
 c171:=by kernel_rfl
 c173:=by kernel_rfl
 c175:=by kernel_rfl
 c210:=by kernel_rfl
 c212:=by kernel_rfl
 c213:=by kernel_rfl
 c232:=by kernel_rfl
 c233:=by kernel_rfl}
def Tryz.lays145_ren:aiY:=⟨fun | 145=>85 | 220=>130 | 219=>181 | 217=>215 | 225=>216 | 224=>217 | 267=>218 | 266=>237 | 314=>238 | n=>n,fun | 9=>9 | 4=>4 | 59=>117 | 3=>3 | 5=>5 | 46=>113 | 146=>219 | 51=>218 | n=>n,fun | 1=>0 | n=>n⟩
theorem Tryz.lays145:Go.Proofs.Lays.n145 Tryz.prog Tryz.lays145_ren:={
 mixed:=by kernel_rfl
 f145:=Tryz.func85.trans (congrArg some (by kernel_rfl))
 f217:=Tryz.func215.trans (congrArg some (by kernel_rfl))
 f219:=Tryz.func181.trans (congrArg some (by kernel_rfl))
 f220:=Tryz.func130.trans (congrArg some (by kernel_rfl))
 f224:=Tryz.func217.trans (congrArg some (by kernel_rfl))
 f225:=Tryz.func216.trans (congrArg some (by kernel_rfl))
 f266:=Tryz.func237.trans (congrArg some (by kernel_rfl))
 f267:=Tryz.func218.trans (congrArg some (by kernel_rfl))
 f314:=Tryz.func238.trans (congrArg some (by kernel_rfl))
 t3:=Tryz.underlying3
 a3:=Tryz.isAgg3
 z3:=Tryz.sizeOf3
 v3:=Tryz.zeroValue3
 t4:=Tryz.underlying4
 a4:=Tryz.isAgg4
 z4:=Tryz.sizeOf4
 v4:=Tryz.zeroValue4
 t5:=Tryz.underlying5
 a5:=Tryz.isAgg5
 z5:=Tryz.sizeOf5
 v5:=Tryz.zeroValue5
 t9:=Tryz.underlying9
 a9:=Tryz.isAgg9
 z9:=Tryz.sizeOf9
 v9:=Tryz.zeroValue9
 t46:=Tryz.underlying113
 a46:=Tryz.isAgg113
 z46:=Tryz.sizeOf113
 v46:=Tryz.zeroValue113
 t51:=Tryz.underlying218
 a51:=Tryz.isAgg218
 z51:=Tryz.sizeOf218
 v51:=Tryz.zeroValue218
 t59:=Tryz.underlying117
 a59:=Tryz.isAgg117
 z59:=Tryz.sizeOf117
 v59:=Tryz.zeroValue117
 t146:=Tryz.underlying219
 a146:=Tryz.isAgg219
 z146:=Tryz.sizeOf219
 v146:=Tryz.zeroValue219
 g1:=by kernel_rfl}
def Tryz.lays191_ren:aiY:=⟨fun | 191=>235 | 189=>247 | 125=>253 | 257=>252 | 128=>264 | 129=>243 | 294=>255 | 295=>256 | 296=>257 | 297=>258 | 298=>259 | 299=>260 | 216=>261 | 300=>262 | 301=>263 | 328=>265 | 329=>266 | 330=>267 | 331=>268 | 332=>269 | 215=>270 | 343=>271 | n=>n,fun | 28=>38 | 0=>0 | 3=>3 | 46=>113 | 51=>218 | 53=>79 | 4=>4 | 183=>244 | 182=>243 | 131=>129 | 5=>5 | 9=>9 | 218=>249 | 222=>253 | 228=>255 | 229=>168 | n=>n,fun | n=>n⟩
theorem Tryz.lays191:Go.Proofs.Lays.n191 Tryz.prog Tryz.lays191_ren:={
 mixed:=by kernel_rfl
 f125:=Tryz.func253.trans (congrArg some (by kernel_rfl))
 f128:=Tryz.func264.trans (congrArg some (by kernel_rfl))
 f129:=Tryz.func243.trans (congrArg some (by kernel_rfl))
 f189:=Tryz.func247.trans (congrArg some (by kernel_rfl))
 f191:=Tryz.func235.trans (congrArg some (by kernel_rfl))
 f215:=Tryz.func270.trans (congrArg some (by kernel_rfl))
 f216:=Tryz.func261.trans (congrArg some (by kernel_rfl))
 f257:=Tryz.func252.trans (congrArg some (by kernel_rfl))
 f294:=Tryz.func255.trans (congrArg some (by kernel_rfl))
 f295:=Tryz.func256.trans (congrArg some (by kernel_rfl))
 f296:=Tryz.func257.trans (congrArg some (by kernel_rfl))
 f297:=Tryz.func258.trans (congrArg some (by kernel_rfl))
 f298:=Tryz.func259.trans (congrArg some (by kernel_rfl))
 f299:=Tryz.func260.trans (congrArg some (by kernel_rfl))
 f300:=Tryz.func262.trans (congrArg some (by kernel_rfl))
 f301:=Tryz.func263.trans (congrArg some (by kernel_rfl))
 f328:=Tryz.func265.trans (congrArg some (by kernel_rfl))
 f329:=Tryz.func266.trans (congrArg some (by kernel_rfl))
 f330:=Tryz.func267.trans (congrArg some (by kernel_rfl))
 f331:=Tryz.func268.trans (congrArg some (by kernel_rfl))
 f332:=Tryz.func269.trans (congrArg some (by kernel_rfl))
 f343:=Tryz.func271.trans (congrArg some (by kernel_rfl))
 t0:=Tryz.underlying0
 a0:=Tryz.isAgg0
 z0:=Tryz.sizeOf0
 v0:=Tryz.zeroValue0
 t3:=Tryz.underlying3
 a3:=Tryz.isAgg3
 z3:=Tryz.sizeOf3
 v3:=Tryz.zeroValue3
 t4:=Tryz.underlying4
 a4:=Tryz.isAgg4
 z4:=Tryz.sizeOf4
 v4:=Tryz.zeroValue4
 t5:=Tryz.underlying5
 a5:=Tryz.isAgg5
 z5:=Tryz.sizeOf5
 v5:=Tryz.zeroValue5
 t9:=Tryz.underlying9
 a9:=Tryz.isAgg9
 z9:=Tryz.sizeOf9
 v9:=Tryz.zeroValue9
 t28:=Tryz.underlying38
 a28:=Tryz.isAgg38
 z28:=Tryz.sizeOf38
 v28:=Tryz.zeroValue38
 t46:=Tryz.underlying113
 a46:=Tryz.isAgg113
 z46:=Tryz.sizeOf113
 v46:=Tryz.zeroValue113
 t51:=Tryz.underlying218
 a51:=Tryz.isAgg218
 z51:=Tryz.sizeOf218
 v51:=Tryz.zeroValue218
 t53:=Tryz.underlying79
 a53:=Tryz.isAgg79
 z53:=Tryz.sizeOf79
 v53:=Tryz.zeroValue79
 t131:=Tryz.underlying129
 a131:=Tryz.isAgg129
 z131:=Tryz.sizeOf129
 v131:=Tryz.zeroValue129
 t182:=Tryz.underlying243
 a182:=Tryz.isAgg243
 z182:=Tryz.sizeOf243
 v182:=Tryz.zeroValue243
 t183:=Tryz.underlying244
 a183:=Tryz.isAgg244
 z183:=Tryz.sizeOf244
 v183:=Tryz.zeroValue244
 t218:=Tryz.underlying249
 a218:=Tryz.isAgg249
 z218:=Tryz.sizeOf249
 v218:=Tryz.zeroValue249
 t222:=Tryz.underlying253
 a222:=Tryz.isAgg253
 z222:=Tryz.sizeOf253
 v222:=Tryz.zeroValue253
 t228:=Tryz.underlying255
 a228:=Tryz.isAgg255
 z228:=Tryz.sizeOf255
 v228:=Tryz.zeroValue255
 t229:=Tryz.underlying168
 a229:=Tryz.isAgg168
 z229:=Tryz.sizeOf168
 v229:=Tryz.zeroValue168}
def Tryz.lays100_ren:aiY:=⟨fun | 100=>72 | 207=>92 | n=>n,fun | 9=>9 | 4=>4 | 3=>3 | n=>n,fun | n=>n⟩
theorem Tryz.lays100:Go.Proofs.Lays.n100 Tryz.prog Tryz.lays100_ren:={
 mixed:=by kernel_rfl
 f100:=Tryz.func72.trans (congrArg some (by kernel_rfl))
 f207:=Tryz.func92.trans (congrArg some (by kernel_rfl))
 t3:=Tryz.underlying3
 a3:=Tryz.isAgg3
 z3:=Tryz.sizeOf3
 v3:=Tryz.zeroValue3
 t4:=Tryz.underlying4
 a4:=Tryz.isAgg4
 z4:=Tryz.sizeOf4
 v4:=Tryz.zeroValue4
 t9:=Tryz.underlying9
 a9:=Tryz.isAgg9
 z9:=Tryz.sizeOf9
 v9:=Tryz.zeroValue9}
def Tryz.lays102_ren:aiY:=⟨fun | 102=>71 | 209=>91 | 207=>92 | n=>n,fun | 9=>9 | 4=>4 | 3=>3 | n=>n,fun | n=>n⟩
theorem Tryz.lays102:Go.Proofs.Lays.n102 Tryz.prog Tryz.lays102_ren:={
 mixed:=by kernel_rfl
 f102:=Tryz.func71.trans (congrArg some (by kernel_rfl))
 f207:=Tryz.func92.trans (congrArg some (by kernel_rfl))
 f209:=Tryz.func91.trans (congrArg some (by kernel_rfl))
 t3:=Tryz.underlying3
 a3:=Tryz.isAgg3
 z3:=Tryz.sizeOf3
 v3:=Tryz.zeroValue3
 t4:=Tryz.underlying4
 a4:=Tryz.isAgg4
 z4:=Tryz.sizeOf4
 v4:=Tryz.zeroValue4
 t9:=Tryz.underlying9
 a9:=Tryz.isAgg9
 z9:=Tryz.sizeOf9
 v9:=Tryz.zeroValue9}
def Tryz.laysM146_ren:aiY:=⟨fun | 146=>70 | 221=>90 | 268=>135 | 138=>136 | 143=>137 | 195=>184 | 197=>185 | 218=>186 | 219=>181 | 260=>220 | 217=>215 | 225=>216 | 224=>217 | 267=>218 | 266=>237 | 314=>238 | n=>n,fun | 9=>9 | 31=>62 | 3=>3 | 4=>4 | 0=>0 | 105=>179 | 21=>21 | 5=>5 | 46=>113 | 119=>221 | 139=>224 | 138=>223 | 146=>219 | 51=>218 | n=>n,fun | 1=>0 | 3=>3 | 4=>4 | n=>n⟩
theorem Tryz.laysM146:Go.Proofs.LaysM.n146 Tryz.prog Tryz.laysM146_ren:={
 mixed:=by kernel_rfl
 f138:=Tryz.func136.trans (congrArg some (by kernel_rfl))
 f143:=Tryz.func137.trans (congrArg some (by kernel_rfl))
 f146:=Tryz.func70.trans (congrArg some (by kernel_rfl))
 f195:=Tryz.func184.trans (congrArg some (by kernel_rfl))
 f197:=Tryz.func185.trans (congrArg some (by kernel_rfl))
 f217:=Tryz.func215.trans (congrArg some (by kernel_rfl))
 f218:=Tryz.func186.trans (congrArg some (by kernel_rfl))
 f219:=Tryz.func181.trans (congrArg some (by kernel_rfl))
 f221:=Tryz.func90.trans (congrArg some (by kernel_rfl))
 f224:=Tryz.func217.trans (congrArg some (by kernel_rfl))
 f225:=Tryz.func216.trans (congrArg some (by kernel_rfl))
 f260:=Tryz.func220.trans (congrArg some (by kernel_rfl))
 f266:=Tryz.func237.trans (congrArg some (by kernel_rfl))
 f267:=Tryz.func218.trans (congrArg some (by kernel_rfl))
 f268:=Tryz.func135.trans (congrArg some (by kernel_rfl))
 f314:=Tryz.func238.trans (congrArg some (by kernel_rfl))
 t0:=Tryz.underlying0
 a0:=Tryz.isAgg0
 z0:=Tryz.sizeOf0
 v0:=Tryz.zeroValue0
 t3:=Tryz.underlying3
 a3:=Tryz.isAgg3
 z3:=Tryz.sizeOf3
 v3:=Tryz.zeroValue3
 t4:=Tryz.underlying4
 a4:=Tryz.isAgg4
 z4:=Tryz.sizeOf4
 v4:=Tryz.zeroValue4
 t5:=Tryz.underlying5
 a5:=Tryz.isAgg5
 z5:=Tryz.sizeOf5
 v5:=Tryz.zeroValue5
 t9:=Tryz.underlying9
 a9:=Tryz.isAgg9
 z9:=Tryz.sizeOf9
 v9:=Tryz.zeroValue9
 t21:=Tryz.underlying21
 a21:=Tryz.isAgg21
 z21:=Tryz.sizeOf21
 v21:=Tryz.zeroValue21
 t31:=Tryz.underlying62
 a31:=Tryz.isAgg62
 z31:=Tryz.sizeOf62
 v31:=Tryz.zeroValue62
 t46:=Tryz.underlying113
 a46:=Tryz.isAgg113
 z46:=Tryz.sizeOf113
 v46:=Tryz.zeroValue113
 t51:=Tryz.underlying218
 a51:=Tryz.isAgg218
 z51:=Tryz.sizeOf218
 v51:=Tryz.zeroValue218
 t105:=Tryz.underlying179
 a105:=Tryz.isAgg179
 z105:=Tryz.sizeOf179
 v105:=Tryz.zeroValue179
 t119:=Tryz.underlying221
 a119:=Tryz.isAgg221
 z119:=Tryz.sizeOf221
 t138:=Tryz.underlying223
 a138:=Tryz.isAgg223
 z138:=Tryz.sizeOf223
 v138:=Tryz.zeroValue223
 t139:=Tryz.underlying224
 a139:=Tryz.isAgg224
 z139:=Tryz.sizeOf224
 v139:=Tryz.zeroValue224
 t146:=Tryz.underlying219
 a146:=Tryz.isAgg219
 z146:=Tryz.sizeOf219
 v146:=Tryz.zeroValue219
 g1:=by kernel_rfl
 g3:=by kernel_rfl
 g4:=by kernel_rfl
 i0:=by kernel_rfl
 i3:=by kernel_rfl
 i4:=by kernel_rfl
 i5:=by kernel_rfl
 i9:=by kernel_rfl
 i21:=by kernel_rfl
 i31:=by kernel_rfl
 i46:=by kernel_rfl
 i51:=by kernel_rfl
 i105:=by kernel_rfl
 i138:=by kernel_rfl
 i139:=by kernel_rfl
 i146:=by kernel_rfl
 m1:=by kernel_rfl
 s1_3:=fun w h=>Go.Proofs.cell_of_shapedOpen_int (zero:=#[.int .i64 0]) (t:=3) h (of_decide_eq_true (by kernel_rfl)) (by kernel_rfl) rfl (by kernel_rfl) (by kernel_rfl) Tryz.underlying3
 m3:=by kernel_rfl
 m4:=by kernel_rfl}
def Tryz.lays229_ren:aiY:=⟨fun | 229=>131 | n=>n,fun | 9=>9 | 40=>154 | 31=>62 | 152=>175 | 3=>3 | 0=>0 | 4=>4 | 21=>21 | 154=>177 | n=>n,fun | n=>n⟩
theorem Tryz.lays229:Go.Proofs.Lays.n229 Tryz.prog Tryz.lays229_ren:={
 mixed:=by kernel_rfl
 f229:=Tryz.func131.trans (congrArg some (by kernel_rfl))
 t0:=Tryz.underlying0
 a0:=Tryz.isAgg0
 z0:=Tryz.sizeOf0
 v0:=Tryz.zeroValue0
 t3:=Tryz.underlying3
 a3:=Tryz.isAgg3
 z3:=Tryz.sizeOf3
 v3:=Tryz.zeroValue3
 t4:=Tryz.underlying4
 a4:=Tryz.isAgg4
 z4:=Tryz.sizeOf4
 v4:=Tryz.zeroValue4
 t9:=Tryz.underlying9
 a9:=Tryz.isAgg9
 z9:=Tryz.sizeOf9
 v9:=Tryz.zeroValue9
 t21:=Tryz.underlying21
 a21:=Tryz.isAgg21
 z21:=Tryz.sizeOf21
 v21:=Tryz.zeroValue21
 t31:=Tryz.underlying62
 a31:=Tryz.isAgg62
 z31:=Tryz.sizeOf62
 v31:=Tryz.zeroValue62
 t40:=Tryz.underlying154
 a40:=Tryz.isAgg154
 z40:=Tryz.sizeOf154
 v40:=Tryz.zeroValue154
 t152:=Tryz.underlying175
 a152:=Tryz.isAgg175
 z152:=Tryz.sizeOf175
 v152:=Tryz.zeroValue175
 t154:=Tryz.underlying177
 a154:=Tryz.isAgg177
 z154:=Tryz.sizeOf177
 v154:=Tryz.zeroValue177}
end Go.Proofs
namespace Go.Proofs.YtjafgdefcggjcaaGreatDoor
open Go Go.V Go.Shelf
set_option maxRecDepth 100000
def gl0:List (Nat × (Obj→Prop)):=[(0,OB 0)]
def gl1:List (Nat × (Obj→Prop)):=gl0++[(5,GB)]
def gl2:List (Nat × (Obj→Prop)):=gl1++[(1,Lx),(2,Lx)]
theorem JP:∀p∈gl0,p∈gl1:=fun _ hp=>aja _ hp
theorem CL:∀p∈gl1,p∈gl2:=fun _ hp=>aja _ hp
theorem mN:∀p∈gl0,p∈gl2:=fun p hp=>CL p (JP p hp)
@[reducible] def rX:FS:=acU
theorem sS:au gl1 Tryz.prog 117 rX:=agN Tryz.laysM171 (by kernel_rfl) (show(5,GB)∈gl1 by simp [gl0,gl1]) (by kernel_rfl)
@[reducible] def tq:FS:=ac2
theorem rZ:au gl2 Tryz.prog 116 tq:=ahi Tryz.laysC172 (by kernel_rfl) (by kernel_rfl) (by kernel_rfl) (show(1,Lx)∈gl2 by simp [gl0,gl1,gl2]) (show(2,Lx)∈gl2 by simp [gl0,gl1,gl2])
@[reducible] def qJ:FS:=KR
theorem Cr:au gl0 Tryz.prog 72 qJ:=WO Tryz.lays100 (by kernel_rfl)
@[reducible] def qn:FS:=HE
theorem AH:au gl0 Tryz.prog 71 qn:=Vj Tryz.lays102 (by kernel_rfl)
@[reducible] def Em:FS:=agb
theorem Eu:au gl0 Tryz.prog 85 Em:=aik Tryz.lays145 (by kernel_rfl) (by kernel_rfl) (show(0,OB 0)∈gl0 by simp [gl0])
@[reducible] def yd:FS:=aad
theorem yp:au gl0 Tryz.prog 70 yd:=ae4 Tryz.laysM146 (by kernel_rfl) (by kernel_rfl) (show(0,OB 0)∈gl0 by simp [gl0])
@[reducible] def Bv:FS:=aek
theorem Pu:au gl0 Tryz.prog 183 Bv:=ag6 Tryz.lays156 Tryz.Builder_Extra_156 (by kernel_rfl)
end Go.Proofs.YtjafgdefcggjcaaGreatDoor

namespace Go.V
open Go.RowKit Go.WideShapes Go.ChangeShapes
mutual
inductive Sh where
 | int (k:IntKind)
 | bool
 | str
 | sl (e:Sh)
 | st (l:ShL)
inductive ShL where
 | nil
 | cons (h:Sh) (t:ShL)
end
mutual
def Sh.size:Sh→Nat
 | .int _=>1
 | .bool=>1
 | .str=>1
 | .sl _=>1
 | .st l=>l.size
def ShL.size:ShL→Nat
 | .nil=>0
 | .cons h t=>h.size+t.size
end
def Sh.isSt:Sh→Bool
 | .st _=>true
 | _=>false
mutual
def Sh.flat:Sh→Bool
 | .int _=>true
 | .bool=>true
 | .str=>true
 | .sl _=>false
 | .st l=>l.flat
def ShL.flat:ShL→Bool
 | .nil=>true
 | .cons h t=>h.flat&&t.flat
end
def wrap (ag:Bool) (m:List D):D:=if ag then .agg m else nth m 0
mutual
def Sh.Is:Sh→List D→Prop
 | .int k,l=>∃n,l=[.v (.int k n)]∧k.min≤n∧n≤k.max
 | .bool,l=>∃b,l=[B b]
 | .str,l=>∃s,l=[T s]∧s.size≤maxLen
 | .sl e,l=>∃ds,l=[.arr e.size ds]∧ds.length≤maxLen∧∀d∈ds,∃m,e.Is m∧d=wrap e.isSt m
 | .st fs,l=>fs.Is l
def ShL.Is:ShL→List D→Prop
 | .nil,l=>l=[]
 | .cons h t,l=>∃a b,l=a++b∧h.Is a∧t.Is b
end
mutual
def Sh.ok (P:Program):Sh→TypeId→Bool
 | .int k,t=>match P.underlying t with
  | some (.int k')=>decide (k'=k)
  | _=>false
 | .bool,t=>match P.underlying t with
  | some .bool=>true
  | _=>false
 | .str,t=>match P.underlying t with
  | some .string=>true
  | _=>false
 | .sl e,t=>match P.underlying t with
  | some (.slice u)=>e.ok P u&&decide (P.cellsOf u=e.size)&&decide (0<e.size)
  | _=>false
 | .st l,t=>match P.underlying t with
  | some (.struct fs)=>l.ok P 0 fs.toList&&decide (P.cellsOf t=l.size)
  | _=>false
def ShL.ok (P:Program):ShL→Nat→List Field→Bool
 | .nil,_,[]=>true
 | .cons h t,off,f::fs=>decide (f.offset=off)&&h.ok P f.type&&decide (P.cellsOf f.type=h.size)&&t.ok P (off+h.size) fs
 | _,_,_=>false
end
section
variable {H:Type} {enc:TypeId × Value→H} {P:Program} {W:World}
theorem Sh.len_one {sh:Sh} (h:sh.isSt=false):sh.size=1:=by
 cases sh<;>simp_all [Sh.isSt,Sh.size]
theorem acf {a:Addr} {n:Nat} {vs:List Value} (h:W.cells? 0 a n=some vs):vs.length=n∧∀i u,vs[i]?=some u→W.cell? (a.add i)=some u:=by
 simp only [World.cells?,Nat.zero_le,if_true] at h;have hl:=mapM_some_length h;rw [List.length_range] at hl;refine⟨hl,fun i u hu=>?_⟩
 have hi:i<n:=by
  rw [←hl];exact(aiW.1 hu).1
 rw [mapM_some_get h i i (by simp [hi]),hu]
theorem afs (a:Addr) (i j:Nat):(a.add i).add j=a.add (i+j):=by
 unfold Addr.add;by_cases hi:i=0<;>by_cases hj:j=0<;>simp [hi,hj,Nat.add_assoc]
theorem abQ {a:Addr} {u:Value} (h:W.cell? a=some u):a.spot=none∧a.block<W.heap.size:=by
 unfold World.cell? at h;split at h
 case h_2=>cases h
 rename_i hb;split at h
 ·cases h
 rename_i hs;refine⟨by simpa using hs,?_⟩
 rcases Nat.lt_or_ge a.block W.heap.size with h' | h'
 ·exact h'
 ·rw [Array.getElem?_eq_none h'] at hb;cases hb
theorem qb {F:Nat→Prop} {d:D} {vs:List Value}:cm W F [d] vs↔RepC W F d vs:=by
 rw [ax];constructor
 ·rintro⟨v1,v2,rfl,h1,h2⟩
  rw [aZ.1 h2,List.append_nil];exact h1
 ·intro h
  exact⟨vs,[],by simp,h,aZ.2 rfl⟩
theorem aa4 {F:Nat→Prop} {sh:Sh} {L:List D} {vs:List Value} (hr:cm W F L vs) (hs:L.all D.single=true) (hl:L.length=sh.size):RepC W F (wrap sh.isSt L) vs∧(wrap sh.isSt L).width=sh.size:=by
 cases hb:sh.isSt
 ·have h1:=Sh.len_one hb
  match L,hl.trans h1 with
  | [d],_ =>
   simp only [wrap,aiV,if_false,nth];refine⟨qb.1 hr,?_⟩
   rw [h1];exact(gG (by simpa using hs)).1
 ·simp only [wrap,if_true]
  refine⟨by rw [RepC];exact⟨hr,hs⟩,?_⟩
  simpa [D.width,D.cells] using hl
mutual
theorem Sh.opened:∀(sh:Sh) (t:TypeId) (fuel:Nat) (cs:List Value) (x:DataW H × List MemPlace),sh.ok P t=true→DataW.trod enc P W 0 (fun _=>true) true fuel t cs=some x →
  ∃L,sh.Is L∧cm W (·<W.heap.size) L cs∧L.all D.single=true∧L.length=sh.size
 | .int k,t,fuel,cs,x,hok,h=>by
  simp only [Sh.ok] at hok;split at hok
  case h_2=>cases hok
  rename_i k' hu;have hk:=of_decide_eq_true hok;subst hk;obtain⟨n,rfl,-,hw⟩:=DataW.trod_int hu h;simp only [Lit.wf,aiT,decide_eq_true_eq] at hw;refine⟨[.v (.int k' n)],⟨n,rfl,hw⟩,qb.2 ?_,rfl,rfl⟩
  simp [RepC,V.flat]
 | .bool,t,fuel,cs,x,hok,h=>by
  simp only [Sh.ok] at hok;split at hok
  case h_2=>cases hok
  rename_i hu;obtain⟨n,rfl,-⟩:=DataW.trod_bool hu h;refine⟨[B n],⟨n,rfl⟩,qb.2 ?_,rfl,rfl⟩
  simp [RepC,V.flat]
 | .str,t,fuel,cs,x,hok,h=>by
  simp only [Sh.ok] at hok;split at hok
  case h_2=>cases hok
  rename_i hu;obtain⟨s,rfl,-,hw⟩:=DataW.trod_string hu h;refine⟨[T s],⟨s,rfl,hw⟩,qb.2 ?_,rfl,rfl⟩
  simp [RepC,V.flat]
 | .sl e,t,fuel,cs,x,hok,h=>by
  simp only [Sh.ok] at hok;split at hok
  case h_2=>cases hok
  rename_i u hu;simp only [aiT,decide_eq_true_eq] at hok;obtain⟨⟨hok,hz⟩,hpos⟩:=hok;rcases DataW.trod_slice hu h with ⟨rfl,-⟩ | ⟨a,len,cap,elems,rest,n,rfl,rfl,-,-,hle,hcap,hlen,hel,-⟩
  ·refine⟨[.arr e.size []],⟨[],rfl,by simp,by simp⟩,qb.2 ?_,rfl,rfl⟩
   rw [RepC];exact⟨none,0,[],rfl,ajm _,aZ.2 rfl,by simp,by simp⟩
  ·have key:∀k,k≤len→∃ds us,ds.length=k∧us.length=k*e.size∧cm W (·<W.heap.size) ds us∧(∀d∈ds,d.width=e.size)∧(∀d∈ds,∃m,e.Is m∧d=wrap e.isSt m)∧∀i v,us[i]?=some v→W.cell? (a.add i)=some v:=by
    intro k;induction k with
    | zero=>exact fun _=>⟨[],[],rfl,by simp,aZ.2 rfl,by simp,by simp,by simp⟩
    | succ k ih =>
     intro hk;obtain⟨ds,us,h1,h2,h3,h4,h5,h6⟩:=ih (by omega);have hi:=hel k (by omega);rw [ai0 (by omega)] at hi;obtain⟨vs,hc,hd⟩:=ai1.1 hi;obtain⟨L,g1,g2,g3,g4⟩:=Sh.opened e u n vs _ hok hd;obtain⟨g5,g6⟩:=acf hc;obtain⟨g7,g8⟩:=aa4 g2 g3 g4;rw [hz] at g5 g6;refine⟨ds++[wrap e.isSt L],us++vs,by simp [h1],by simp [h2,g5,Nat.succ_mul],(fg _ _ _).2 ⟨us,vs,rfl,h3,qb.2 g7⟩,?_,?_,fun i v hv=>?_⟩
     ·intro d hd
      rcases ai2.1 hd with hd | hd
      ·exact h4 d hd
      ·simp at hd;subst hd;exact g8
     ·intro d hd
      rcases ai2.1 hd with hd | hd
      ·exact h5 d hd
      ·simp at hd;subst hd;exact⟨L,g1,rfl⟩
     ·rcases Nat.lt_or_ge i us.length with hlt | hge
      ·rw [List.getElem?_append_left hlt] at hv
       exact h6 i v hv
      ·rw [List.getElem?_append_right hge] at hv
       have:=g6 _ v hv;rw [afs,←h2] at this;rw [show us.length+(i - us.length)=i from by omega] at this;exact this
   obtain⟨ds,us,h1,h2,h3,h4,h5,h6⟩:=key len (ajm _);refine⟨[.arr e.size ds],⟨ds,rfl,by omega,h5⟩,qb.2 ?_,rfl,rfl⟩
   rw [RepC];refine⟨some a,cap,us,by rw [h1],by omega,h3,h4,fun hne=>?_⟩
   have hpl:0<us.length:=by
    rw [h2,←h1];exact Nat.mul_pos (List.length_pos_iff.2 hne) hpos
   have h0:=h6 0 _ (ai0 hpl);have ha0:a.add 0=a:=by simp [Addr.add]
   rw [ha0] at h0;obtain⟨hsp,hbl⟩:=abQ h0;have ea:a=⟨a.block,a.off,none⟩:=by
    rw [←hsp]
   refine⟨a.block,a.off,by rw [←ea],hbl,fun i v hv=>?_⟩
   have:=h6 i v hv;unfold Addr.add at this;split at this
   ·rename_i hi0
    subst hi0;rw [Nat.add_zero,←ea];exact this
   ·rw [←hsp]
    rw [hsp];exact this
 | .st l,t,fuel,cs,x,hok,h=>by
  simp only [Sh.ok] at hok;split at hok
  case h_2=>cases hok
  rename_i fs hu;simp only [aiT,decide_eq_true_eq] at hok;obtain⟨xs,n,rfl,-,hlen,hxl,hf⟩:=DataW.trod_struct hu h;obtain⟨L,g1,g2,g3,g4⟩:=ShL.opened l 0 fs.toList n cs hok.1 (fun f hf'=>by
   obtain⟨i,hi,he⟩:=List.mem_iff_getElem.1 hf';have:=hf i f (by rw [←he];simp at hi ⊢);rw [ai0 (by simp at hi;omega)] at this;exact⟨_,this⟩)
  rw [ajA,←hok.2,←hlen,List.take_length] at g2;exact⟨L,g1,g2,g3,g4⟩
theorem ShL.opened:∀(l:ShL) (off:Nat) (fs:List Field) (fuel:Nat) (cs:List Value),l.ok P off fs=true→(∀f∈fs,∃x,DataW.trod enc P W 0 (fun _=>true) true fuel f.type ((cs.drop f.offset).take (P.cellsOf f.type))=some x) →
  ∃L,l.Is L∧cm W (·<W.heap.size) L ((cs.drop off).take l.size)∧L.all D.single=true∧L.length=l.size
 | .nil,off,[],fuel,cs,hok,h=>⟨[],rfl,by simp [ShL.size,aZ],rfl,rfl⟩
 | .nil,off,_::_,fuel,cs,hok,h=>by simp [ShL.ok] at hok
 | .cons a t,off,[],fuel,cs,hok,h=>by simp [ShL.ok] at hok
 | .cons a t,off,f::fs,fuel,cs,hok,h=>by
  simp only [ShL.ok,aiT,decide_eq_true_eq] at hok;obtain⟨⟨⟨h1,h2⟩,h3⟩,h4⟩:=hok;obtain⟨x,hx⟩:=h f (by simp);obtain⟨L,g1,g2,g3,g4⟩:=Sh.opened a f.type fuel _ x h2 hx;obtain⟨M,k1,k2,k3,k4⟩:=ShL.opened t (off+a.size) fs fuel cs h4 (fun f hf=>h f (by simp [hf]));refine⟨L++M,⟨L,M,rfl,g1,k1⟩,(fg _ _ _).2 ⟨_,_,?_,g2,k2⟩,by simp [g3,k3],by simp [ShL.size,g4,k4]⟩
  rw [h1,h3,ShL.size,←List.drop_drop,←List.take_add]
end
def UX:D→Bool
 | .v _=>true
 | _=>false
theorem afQ {L:List D} (h:L.all UX=true):(D.agg L).isV=true:=by
 simp only [D.isV];refine ai7.2 fun d hd=>?_
 have:=ai7.1 h d hd;cases d<;>simp_all [UX]
mutual
theorem Sh.isV_of:∀(sh:Sh) (L:List D),sh.flat=true→sh.Is L→L.all UX=true
 | .int k,L,_,h=>by obtain⟨n,rfl,_⟩:=h;rfl
 | .bool,L,_,h=>by obtain⟨n,rfl⟩:=h;rfl
 | .str,L,_,h=>by obtain⟨n,rfl,_⟩:=h;rfl
 | .sl _,L,h,_=>by simp [Sh.flat] at h
 | .st l,L,h,hl=>ShL.isV_of l L (by simpa [Sh.flat] using h) hl
theorem ShL.isV_of:∀(sh:ShL) (L:List D),sh.flat=true→sh.Is L→L.all UX=true
 | .nil,L,_,h=>by cases h;rfl
 | .cons a t,L,h,hl=>by
  obtain⟨x,y,rfl,h1,h2⟩:=hl;simp only [ShL.flat,aiT] at h;rw [List.all_append,Sh.isV_of a x h.1 h1,ShL.isV_of t y h.2 h2];rfl
end
def Sh.IsV (sh:Sh) (d:D):Prop:=∃m,sh.Is m∧d=wrap sh.isSt m
theorem Sh.arg {sh:Sh} {t:TypeId} {v:Value} {d:DataW H} {ps:List MemPlace} {base:Nat} (hok:sh.ok P t=true) (hv:ajb P W .any base t v) (h:DataW.Trod enc P W 0 (fun _=>true) true t v d ps) :
  ∃x,sh.IsV x∧bU W (·<W.heap.size) x v∧(sh.flat=true→x.isV=true):=by
 obtain⟨fuel,h⟩:=h;obtain⟨L,h1,h2,h3,h4⟩:=Sh.opened sh t fuel _ _ hok h;refine⟨_,⟨L,h1,rfl⟩,?_,fun hf=>?_⟩
 ·cases hb:sh.isSt
  ·have h1':=Sh.len_one hb
   have hone:v.cells.toList=[v]:=by
    cases sh<;>simp only [Sh.isSt,Bool.true_eq_false] at hb<;>simp only [Sh.ok] at hok<;>split at hok<;>rename_i hu
    ·obtain⟨n,rfl⟩:=okWide_int hu hv;rfl
    ·cases hok
    ·obtain⟨n,rfl⟩:=okWide_bool hu hv;rfl
    ·cases hok
    ·obtain⟨n,rfl⟩:=okWide_string hu hv;rfl
    ·cases hok
    ·obtain⟨_,_,_,rfl⟩:=okWide_slice hu hv;rfl
    ·cases hok
   match L,h4.trans h1' with
   | [e],_ =>
    simp only [wrap,aiV,if_false,nth];have hs:e.single=true:=by simpa using h3
    rw [hone] at h2;exact(ng hs).2 (qb.1 h2)
  ·simp only [wrap,if_true]
   have:∃cs,v = .agg cs:=by
    cases sh<;>simp only [Sh.isSt,aiV] at hb
    simp only [Sh.ok] at hok;split at hok
    case h_2=>cases hok
    rename_i hu;simp only [ajb,hu] at hv;obtain⟨cs,h,_⟩:=hv;exact⟨cs,h⟩
   obtain⟨cs,rfl⟩:=this;refine⟨cs.toList,by simp,?_⟩
   rw [RepC];exact⟨by simpa [Value.cells] using h2,h3⟩
 ·have:=Sh.isV_of sh L hf h1
  cases hb:sh.isSt
  ·match L,h4.trans (Sh.len_one hb) with
   | [e],_ =>
    simp only [wrap,aiV,if_false,nth];cases e<;>simp [UX] at this
    rfl
  ·simp only [wrap,if_true]
   exact afQ this
theorem agj {k:IntKind} {x:D} (h:(Sh.int k).IsV x):∃n,x = .v (.int k n)∧k.min≤n∧n≤k.max:=by
 obtain⟨_,⟨n,rfl,h⟩,rfl⟩:=h;exact⟨n,rfl,h⟩
theorem ahH {e:Sh} {x:D} (h:(Sh.sl e).IsV x):∃ds,x = .arr e.size ds∧ds.length≤maxLen∧∀d∈ds,e.IsV d:=by
 obtain⟨_,⟨n,rfl,h,h'⟩,rfl⟩:=h;exact⟨n,rfl,h,h'⟩
def KT (P:Program):List Sh→List TypeId→List Kd→Bool
 | [],[],[]=>true
 | sh::shs,t::ts,.dat lv::ks=>sh.ok P t&&(aju lv 2||(aju lv 0&&sh.flat))&&KT P shs ts ks
 | _,_,_=>false
def Vx:List Sh→List D→Prop
 | [],[]=>True
 | sh::shs,d::ds=>sh.IsV d∧Vx shs ds
 | _,_=>False
theorem afL {a b:Sh} {ds:List D} (h:Vx [a,b] ds):∃x y,ds=[x,y]∧a.IsV x∧b.IsV y:=by
 match ds,h with
 | [x,y],⟨h1,h2,_⟩=>exact⟨x,y,rfl,h1,h2⟩
theorem ZX {base:Nat}:∀(shs:List Sh) (ts:List TypeId) (ks:List Kd) (vs:List Value) (ds:List (DataW H)) (ps:List MemPlace) (i:Nat),KT P shs ts ks=true→ai4 enc P W 0 (fun _=>true) true ts vs ds ps →
  (∀(j:Nat) t v,ts[j]?=some t→vs[j]?=some v→ajb P W .any base t v)→∃xs,Vx shs xs∧fB W (·<W.heap.size) (fun _=>none) i ks xs vs
 | [],[],[],[],_,_,_,_,_,_=>⟨[],trivial,trivial⟩
 | [],[],[],_::_,[],_,_,_,h,_=>h.elim
 | [],[],[],_::_,_::_,_,_,_,h,_=>h.elim
 | sh::shs,t::ts,k::ks,[],[],_,_,_,h,_=>h.elim
 | sh::shs,t::ts,k::ks,[],_::_,_,_,_,h,_=>h.elim
 | sh::shs,t::ts,k::ks,_::_,[],_,_,_,h,_=>h.elim
 | sh::shs,t::ts,k::ks,v::vs,d::ds,ps,i,hok,h,hv=>by
  cases k<;>simp only [KT,aiV] at hok
  rename_i lv;simp only [aiT,Bool.or_eq_true] at hok;obtain⟨⟨hok1,hlv⟩,hok2⟩:=hok;obtain⟨p,q,h1,h2,rfl⟩:=h;obtain⟨x,g1,g2,g3⟩:=Sh.arg hok1 (hv 0 t v rfl rfl) h1;obtain⟨xs,k1,k2⟩:=ZX shs ts ks vs ds q (i+1) hok2 h2 (fun j t v ht hv'=>hv (j+1) t v ht hv');refine⟨x::xs,⟨g1,k1⟩,.inr ?_,k2⟩
  rcases hlv with h' | ⟨h',hf⟩
  ·rw [bd] at h'
   subst h';exact g2
  ·exact vx (g3 hf) g2
 | [],[],_::_,_,_,_,_,hok,_,_=>by simp [KT] at hok
 | [],_::_,_,_,_,_,_,hok,_,_=>by simp [KT] at hok
 | _::_,[],_,_,_,_,_,hok,_,_=>by simp [KT] at hok
 | _::_,_::_,[],_,_,_,_,hok,_,_=>by simp [KT] at hok
theorem Et {W':World} (hl:laidOutB P=true):∀(ts:List TypeId) (vs:List Value) (ds:List (DataW H)) (ps:List MemPlace),(ts.all fun t=>P.readableRec t&&decide (t<P.types.size))=true →
  ai4 enc P W 0 (fun _=>true) true ts vs ds ps→Below W.heap.size W W'→(∀x∈ps,x.block<W.heap.size)→∀sp:Nat→Bool,(∀x∈ps,sp x.block=true)→ai4 enc P W' 0 sp true ts vs ds ps
 | [],[],[],_,_,h,_,_,_,_=>h
 | [],_::_,[],_,_,h,_,_,_,_=>h.elim
 | [],[],_::_,_,_,h,_,_,_,_=>h.elim
 | [],_::_,_::_,_,_,h,_,_,_,_=>h.elim
 | _::_,[],[],_,_,h,_,_,_,_=>h.elim
 | _::_,[],_::_,_,_,h,_,_,_,_=>h.elim
 | _::_,_::_,[],_,_,h,_,_,_,_=>h.elim
 | t::ts,v::vs,d::ds,ps,hr,h,hb,hlt,sp,hsp=>by
  obtain⟨p,q,h1,h2,rfl⟩:=h;simp only [List.all_cons,aiT,decide_eq_true_eq] at hr;refine⟨p,q,?_,Et hl ts vs ds q hr.2 h2 hb (fun x hx=>hlt x (by simp [hx])) sp (fun x hx=>hsp x (by simp [hx])),rfl⟩
  exact WideElems.Trod_stays hl hr.1.1 hr.1.2 h1 (fun x hx=>hb.same (hlt x (by simp [hx]))) (fun x hx=>hsp x (by simp [hx]))
end
section
variable {H:Type} {enc:TypeId × Value→H} {P:Program}
theorem QB {f:Func} {s:ChangeSpec} {apart fresh handsOn again:Bool} {W W':World} {args:Array Value} {v:Value} {ds gs:List (DataW H)} {before pa pv:List MemPlace}
  (hW:DataW.Whole enc P f.params.toList s.vars apart W args.toList ds gs before)
  (hres:∀(b:Nat) (sp:Nat→Bool) (hd:Bool),ai4 enc P W' b sp hd f.resultTypes.toList (v.resultList f.resultTypes.size) (s.fn H (ds++gs)).results [])
  (hargs:∀sp:Nat→Bool,(∀p∈before,sp p.block=true)→ai4 enc P W' 0 sp true f.params.toList args.toList (s.fn H (ds++gs)).args pa)
  (hvars:∀sp:Nat→Bool,(∀p∈before,sp p.block=true)→DataW.TrodVars enc P W' sp s.vars (s.fn H (ds++gs)).vars pv)
  (hps:before=pa++pv) (hb:Below W.heap.size W W')
  (hok:∀(j:Nat) (t:TypeId) (r:Value),f.resultTypes[j]?=some t→(v.resultList f.resultTypes.size)[j]?=some r→ajb P W' .any 0 t r) :
  s.post enc P f apart fresh handsOn again W args v W':=by
 have hlt:∀p∈before,p.block<W.heap.size:=fun p hp=>hW.lt p hp
 have hold:∀p∈before,(fun b=>decide (b<W.heap.size)) p.block=true:=fun p hp=>by simpa using hlt p hp
 refine⟨ds,gs,before,[],pa,pv,hW,hres _ _ _,hargs _ hold,hvars _ hold,World.keptBut_mono (fun p hp=>⟨hp,?_⟩) (hb.frame (·∈before)),fun _=>?_⟩
 ·rw [hps,ai2] at hp
  exact Or.inr hp
 ·obtain⟨_,_,_,_,_,hz,hn⟩:=hW
  refine⟨hok,_,_,([]++pa)++pv,⟨[]++pa,pv,trodAll_append (hargs _ (fun _ _=>rfl)) (hres _ _ _),hvars _ (fun _ _=>rfl),rfl,?_,?_⟩,?_⟩
  ·intro b off hp
   have hin:MemPlace.cell b off∈before:=by rw [hps];simpa using hp
   rw [hb.frozen (hlt _ hin)];exact hz b off hin
  ·intro ha
   have:=hn ha;rw [hps] at this;simpa using this
  ·intro p hp _
   rw [hps];simpa using hp
theorem NC {G:List (Nat × (Obj→Prop))} {f:FuncId} {S:FS} (hm:au G P f S) {fn:Func} (hf:P.funcs[f]?=some fn) (hname:(fn.name=="runtime.NumGoroutine")=false) (hb:fn.body.isSome=true) {ds rs us:List D} (hd:S.f ds=some (.ret rs us)) {args:Array Value} {w:World} {F:Nat→Prop} {ow:Nat→Option Nat}
  (hgl:gOk G w F) (ha:fB w F ow 0 S.pm ds args.toList) (hF:∀b,F b→b<w.heap.size∧ow b=none) (hO:∀b i,ow b=some i→b<w.heap.size) :
  Calls P f args w fun e w'=>∃v,e = .returned v∧∃F' R vs,v=lA vs∧CallPost S args rs us w F ow F' R vs w':=by
 obtain⟨b,hb⟩:=ajj.1 hb;have h1:¬fn.name="runtime.NumGoroutine":=by simpa using hname
 have hrun:(callFunc f args).run P w = .ok (.enter f args) w:=by simp [callFunc,hf,h1,hb]
 have h2:=hm ds rs us hd args w F ow hgl ha hF hO {(default:Oper) with dst:=some 0} {tmps:=#[undef],defers:=[]} (fun a w'=>∃F' R vs,a.tmps.getD 0 undef=lA vs∧CallPost S args rs us w F ow F' R vs w') (fun _ _ _=>False) (fun v w' h=>by
  obtain⟨F',R,vs,rfl,h⟩:=h;exact⟨F',R,vs,by simp [ajz],h⟩)
 rw [hrun,ai9] at h2;refine ajh h2 fun e w' he=>?_
 cases e with
 | returned v =>
  obtain⟨F',R,vs,h3,h4⟩:=he;exact⟨v,rfl,F',R,vs,by simpa [ajz] using h3,h4⟩
 | panicked c=>exact he.elim
 | outgrown=>obtain⟨_,_,h⟩:=he;exact h.elim
theorem ad0 {G:List (Nat × (Obj→Prop))} {f:FuncId} {S:FS} (hm:au G P f S) {fn:Func} (hf:P.funcs[f]?=some fn) (hname:(fn.name=="runtime.NumGoroutine")=false) (hbd:fn.body.isSome=true) (shs:List Sh) {rt:TypeId}
  (hl:laidOutB P=true) (hsh:KT P shs fn.params.toList S.pm=true) (hrd:(fn.params.toList.all fun t=>P.readableRec t&&decide (t<P.types.size))=true)
  (hrm:S.rm=[.dat 0]) (hrt:fn.resultTypes=#[rt]) (hbool:P.underlying rt=some .bool)
  (hd:∀ds,Vx shs ds→S.f ds=some (.ret [B true] [])) {s:ChangeSpec} (hvars:s.vars=[])
  (hs:∀ds:List (DataW H),ds.length=fn.params.size→s.fn H (ds++[])={results:=[.lit (.bool true)],args:=ds})
  {W:World} {base:Nat} {args:Array Value} {ds gs:List (DataW H)} {before:List MemPlace}
  (hval:∀(j:Nat) t v,fn.params[j]?=some t→args[j]?=some v→ajb P W .any base t v) (hW:DataW.Whole enc P fn.params.toList s.vars false W args.toList ds gs before) (hgl:gOk G W fun b=>b<W.heap.size) {fresh handsOn again:Bool} :
  Calls P f args W fun e W'=>∃v,e = .returned v∧s.post enc P fn false fresh handsOn again W args v W':=by
 have hW':=hW;have hlt:∀p∈before,p.block<W.heap.size:=fun p hp=>hW.lt p hp
 obtain⟨p,q,hA,hV,rfl,hfz,hnd⟩:=hW;rw [hvars] at hV;have hgs:gs=[]∧q=[]:=by
  cases gs with
  | nil=>exact⟨rfl,hV⟩
  | cons _ _=>exact hV.elim
 obtain⟨rfl,rfl⟩:=hgs;obtain⟨xs,h1,h2⟩:=ZX (base:=base) shs fn.params.toList S.pm args.toList ds p 0 hsh hA (fun j t v ht hv=>hval j t v (by simpa using ht) (by simpa using hv));refine ajh (NC hm hf hname hbd (hd xs h1) hgl h2 (fun b hb=>⟨hb,rfl⟩) (fun b i hi=>by cases hi)) fun e W' he=>?_
 obtain⟨v,rfl,F',R,vs,rfl,hp⟩:=he;refine⟨_,rfl,?_⟩
 have hlen:ds.length=fn.params.size:=by
  have:∀(ts:List TypeId) (vs:List Value) (ds:List (DataW H)) (ps:List MemPlace),ai4 enc P W 0 (fun _=>true) true ts vs ds ps→ds.length=ts.length:=by
   intro ts;induction ts with
   | nil =>
    intro vs ds ps h;cases ds with
    | nil=>rfl
    | cons _ _=>cases vs<;>exact h.elim
   | cons t ts ih =>
    intro vs ds ps h;cases vs with
    | nil=>exact h.elim
    | cons v vs =>
     cases ds with
     | nil=>exact h.elim
     | cons d ds =>
      obtain⟨_,_,_,h2,_⟩:=h;simp [ih _ _ _ h2]
  simpa using this _ _ _ _ hA
 have hB:Below W.heap.size W W':=⟨hp.os,hp.tape,hp.output,hp.size,fun b hb=>hp.keep b hb rfl⟩
 have hres:lA vs = .bool true:=by
  have hl1:=hp.len;rw [hrm] at hl1
  match vs,hl1 with
  | [y],_ =>
   have h0:=hp.res 0;rw [hrm] at h0;simp only [aD,nth,ajr] at h0;rcases h0 with h0 | h0
   ·cases h0
   ·exact(ct.1 h0).1
 rw [hres];have hsd:=hs ds hlen;refine QB (pa:=p) (pv:=[]) hW' (fun b sp hd'=>?_) (fun sp hsp=>?_) (fun sp _=>?_) rfl hB ?_
 ·rw [hsd,hrt]
  exact trodAll_mk1 (shut_bool hbool true)
 ·rw [hsd]
  exact Et hl _ _ _ _ hrd hA hB (fun x hx=>hlt x (by simp [hx])) sp (fun x hx=>hsp x (by simp [hx]))
 ·rw [hsd,hvars]
  rfl
 ·exact ok_one hrt rfl (okWide_bool_mk hbool true)
end
end Go.V

namespace Go.Proofs.YtjafgdefcggjcaaGreatDoor
open Go Go.V Go.RowKit Go.WideShapes Go.ChangeShapes
set_option maxRecDepth 100000
theorem own:ownKnob Tryz.prog.godebug=none:=by kernel_rfl
theorem aeW:laidOutB Tryz.prog=true:=by kernel_rfl
theorem xH {w:World} {g:Nat} {p:Obj→Prop} (h:∃o,w.heap[g]?=some o∧p o):g<w.heap.size∧∃o,w.heap[g]?=some o∧p o:=by
 obtain⟨o,ho,hp⟩:=h;exact⟨(aje.1 ho).1,o,ho,hp⟩
theorem agF {W:World} (hsh:W.ShapedOpen Tryz.prog):gOk gl0 W fun b=>b<W.heap.size:=by
 intro p hp;simp only [gl0,ajq,ajk,or_false] at hp;subst hp;obtain⟨m,hm⟩:=Go.Proofs.cell_of_shapedOpen_int (g:=0) (zero:=#[.int .i64 0]) (t:=3) hsh (of_decide_eq_true (by kernel_rfl)) (by kernel_rfl) rfl (by kernel_rfl) (by kernel_rfl) Tryz.underlying3;exact xH (aet hm)
theorem ahY:Tryz.prog.globalNamed "internal/strconv.uint64pow10"=some 5:=by kernel_rfl
theorem ag5 {W:World} {rest:List (String × DataW Unit)} (h:laidMet Tryz.prog (("internal/strconv.uint64pow10",Rows.laid_internal_strconv_uint64pow10)::rest) W):ajE Tryz.prog W "internal/strconv.uint64pow10" .u64 ajt :=
 Lib.tabIs_of_head (rest:=rest) ahY (by kernel_rfl) Tryz.underlying230 Tryz.underlying79 (by kernel_rfl) (by kernel_rfl) h
theorem ahb {W:World} (hsh:W.ShapedOpen Tryz.prog) (hp:ajE Tryz.prog W "internal/strconv.uint64pow10" .u64 ajt):gOk gl1 W fun b=>b<W.heap.size:=by
 intro p hq;rcases ai2.1 hq with hq | hq
 ·exact agF hsh p hq
 ·simp only [ajq,ajk,or_false] at hq
  subst hq;exact xH (YX ahY hp)
theorem gES:Tryz.prog.globalNamed "strconv.ErrSyntax"=some 1:=by kernel_rfl
theorem gER:Tryz.prog.globalNamed "strconv.ErrRange"=some 2:=by kernel_rfl
theorem aig:"*"++"errors.errorString"="*errors.errorString":=by decide
theorem aaF (u:TypeId) (h:Tryz.prog.typeName? 3 u=some "*errors.errorString"):u=226 :=
 typeName_ptr_named (nm:="errors.errorString") (by rw [aig];kernel_rfl) (by kernel_rfl) (by decide) u (by rw [aig];exact h)
theorem ah9 {W:World} {rest:List (String × DataW Unit)} (h:laidMet Tryz.prog (("strconv.ErrSyntax",Rows.laid_strconv_ErrSyntax)::rest) W):∃tp p,W.var? Tryz.prog "strconv.ErrSyntax"=some #[.iface tp p]:=by
 obtain⟨a0,s0,hv0,-,-,-⟩:=laid_sentinel h gES (by kernel_rfl) Tryz.underlying69 aaF Tryz.underlying226 Tryz.underlying228 rfl rfl Tryz.underlying9 (by kernel_rfl) (by kernel_rfl);exact⟨_,_,hv0⟩
theorem aie {W:World} {rest:List (String × DataW Unit)} (h:laidMet Tryz.prog (("strconv.ErrRange",Rows.laid_strconv_ErrRange)::rest) W):∃tp p,W.var? Tryz.prog "strconv.ErrRange"=some #[.iface tp p]:=by
 obtain⟨a0,s0,hv0,-,-,-⟩:=laid_sentinel h gER (by kernel_rfl) Tryz.underlying69 aaF Tryz.underlying226 Tryz.underlying228 rfl rfl Tryz.underlying9 (by kernel_rfl) (by kernel_rfl);exact⟨_,_,hv0⟩
theorem agA {W:World} (hsh:W.ShapedOpen Tryz.prog) (hp:ajE Tryz.prog W "internal/strconv.uint64pow10" .u64 ajt) (hs:∃tp p,W.var? Tryz.prog "strconv.ErrSyntax"=some #[.iface tp p]) (hr:∃tp p,W.var? Tryz.prog "strconv.ErrRange"=some #[.iface tp p]) :
  gOk gl2 W fun b=>b<W.heap.size:=by
 intro p hq;rcases ai2.1 hq with hq | hq
 ·exact ahb hsh hp p hq
 ·simp only [ajq,ajk,or_false] at hq
  obtain⟨_,_,hs⟩:=hs;obtain⟨_,_,hr⟩:=hr;rcases hq with rfl | rfl
  ·exact xH (XU gES hs)
  ·exact xH (XU gER hr)
end Go.Proofs.YtjafgdefcggjcaaGreatDoor

namespace Go.Proofs.YtjafgdefcggjcaaGreatDoor
open Go
theorem mD {a b:Bool} (h:a=true) (g:b=true):(a&&b)=true:=by rw [h,g];rfl
theorem abl {P:Program} {f:FuncId} {fn:Func} {s:ChangeSpec} {c:OpenClaim}
  (k1:(c.wf (OpenSpec.ofChange s))=true)
  (k2:(laidOutB P)=true)
  (k3:(mapsRowed P)=true)
  (k4:(fn.params.all (P.readableRec ·))=true)
  (k5:(namedTie P c.named s.vars)=true)
  (k6:((c.stops==[]))=true)
  (k7:((P.stops==[]))=true)
  (k8:((c.knobs==[]))=true)
  (k9:((P.stopKnobs==[]))=true)
  (k10:((c.inPlace==P.inPlace f))=true)
  (k11:((c.unfollowed==P.unfollowed f))=true)
  (k12:((c.recurses==P.recurses f))=true)
  (k13:((c.named==P.varsNamed f))=true)
  (k14:((c.maps==(fn.params.toList++s.plain.varTypes P).any (P.mapsRec ·)))=true)
  (k15:((c.ifaces==(fn.params.toList++s.plain.varTypes P).any (P.ifacesRec ·)))=true)
  (k16:((c.mapsOut==P.mapsAmong fn.resultTypes.toList))=true)
  (k17:((c.loops==(fn.params.toList++s.plain.varTypes P).any (P.loopsFrom ·)))=true)
  (k17b:((c.wideKeys==(fn.params.toList++s.plain.varTypes P++fn.resultTypes.toList).any (P.wideKeysFrom ·)))=true)
  (k18:(s.vars.all (P.varReadable ·))=true)
  (k19:(fn.resultTypes.all (fun t=>P.readableRec t&&decide (t<P.types.size)))=true)
  (k20:((c.ifacesOut==fn.resultTypes.toList.any (P.ifacesRec ·)))=true)
  (k21:((c.loopsOut==fn.resultTypes.toList.any (P.loopsFrom ·)))=true)
  (k22:((c.plainKeys==P.plainKeys))=true)
  (k23:(c.shortTexts.isNone)=true)
  (k23b:(P.stopsHeard)=true)
  (k24:(P.mayEnter)=true)
  (k24b:((c.lifted==P.liftsFinal))=true)
  (k24c:((P.make==some c.make))=true)
  (k25:((c.kinds==(if c.domain.isEmpty then [] else fn.params.toList.map fun t=>match P.underlying t with | some (.int k)=>some k | _=>none)))=true)
  (k26:((c.pinned==c.pinnedBy))=true)
  (k27:((c.veiled==(fn.params.toList++s.plain.varTypes P++fn.resultTypes.toList).any (P.veiledRec ·)))=true)
  (k28:(c.veiledFits P fn.params.toList (fn.params.toList++s.plain.varTypes P++fn.resultTypes.toList))=true):joinedFacts P f fn s c=true :=
 mD (mD (mD (mD (mD (mD (mD (mD (mD (mD (mD (mD (mD (mD (mD (mD (mD (mD (mD (mD (mD (mD (mD (mD (mD (mD (mD (mD (mD (mD (mD k1 k2) k3) k4) k5) k6) k7) k8) k9) k10) k11) k12) k13) k14) k15) k16) k17) k17b) k18) k19) k20) k21) k22) k23) k23b) k24) k24b) k24c) k25) k26) k27) k28
end Go.Proofs.YtjafgdefcggjcaaGreatDoor

namespace Go.Proofs.YtjafgdefcggjcaaGreatDoor
open Go.V
set_option maxRecDepth 100000
theorem dI:Tryz.prog.follows .mixedOrders=true:=by kernel_rfl
theorem ay {c:Cx} {S:FS} {f:FuncId} {fn:Func} (hS:∀f S,en c.S f=some S→au c.G Tryz.prog f S) (hf:Tryz.prog.funcs[f]?=some fn) (hres:c.res=fn.results.toList) (hF:S.f=aX c fn)
  (hb:(okT Tryz.prog c.T&&(!(fn.name=="runtime.NumGoroutine")&&Yv c fn S.pm S.rm))=true):au c.G Tryz.prog f S:=by
 obtain⟨pm,rm,g⟩:=S;cases hF;simp only [aiT,Bool.not_eq_true'] at hb;exact XB hb.1 hS dI hf hb.2.1 hb.2.2 hres
@[reducible] def ty3:TI:={n:=1,zero:=[.v (.int .i64 0)],ik:=some .i64}
@[reducible] def ty9:TI:={n:=1,zero:=[.v (.string ⟨#[]⟩)],str:=true}
@[reducible] def aiL:TI:={n:=1,zero:=[.v (.int .i32 0)],ik:=some .i32}
@[reducible] def dq:TI:={n:=1,zero:=[.arr 1 []],elem:=3,ez:=1,eb:=8}
@[reducible] def Iw:TI:={n:=1,zero:=[.arr 1 []],elem:=9,ez:=1,eb:=16}
@[reducible] def kn:TI:={agg:=true,n:=3,zero:=[.v (.int .i64 0),.v (.int .i64 0),.v (.int .i64 0)],fs:=[(0,3),(1,3),(2,3)],eq:=[1,1,1]}
@[reducible] def sC:Cx:={K:=[Y,.no,Y,Y,Y,Y,Y,Y,Y],T:=[(21,aiL)],S:=[],H:=[],res:=[.tmp 2],ios:=[],G:=gl0}
def iR:List D→Option Out:=aX sC Tryz.f132
@[reducible] def Ga:FS:={pm:=[Y],rm:=[Y],f:=iR}
theorem Fp:au gl0 Tryz.prog 132 Ga:=ay (c:=sC) al Tryz.func132 rfl rfl (by kernel_rfl)
@[reducible] def Lm:Cx:={K:=[Yc,Y,.no,.no,Y,Yo 1 0,.no,Y,Yo 1 0,Yc,Y,Y,Y,Yc,Y,Yo 1 0,Y,Y,Yb,Yo 1 0,Y,.via 5,Y,Y],T:=[(3,ty3),(9,ty9),(38,dq),(62,Iw)],S:=[(117,rX),(183,Bv)],H:=[(0,([1,5,9,10,11],[1,5]))],res:=[.tmp 4],ios:=[],G:=gl1}
def dm:List D→Option Out:=aX Lm Tryz.f134
@[reducible] def pX:FS:={pm:=[Yc,Y],rm:=[Y],f:=dm}
theorem qc:au gl1 Tryz.prog 134 pX:=ay (c:=Lm) (ab sS (ab (aJ JP Pu) al)) Tryz.func134 rfl rfl (by kernel_rfl)
@[reducible] def yf:Cx:={K:=[Y,Y,.box 3 0 false,.no,Y,Yr 2,Y,Yr 2,Y,Yr 2,Y,Y,Yb,Y,Y],T:=[(3,ty3),(9,ty9),(38,dq),(121,kn)],S:=[(134,pX)],H:=[],res:=[.tmp 4],ios:=[],G:=gl1}
def jq:List D→Option Out:=aX yf Tryz.f88
@[reducible] def xP:FS:={pm:=[Y,Y],rm:=[Y],f:=jq}
theorem yE:au gl1 Tryz.prog 88 xP:=ay (c:=yf) (ab qc al) Tryz.func88 rfl rfl (by kernel_rfl)
@[reducible] def HA:Cx:={K:=[Y,Y,.no,.box 3 0 false,Y,Y,Y,Yr 3,Y,Y,Y,Yr 3,Y,Y,Y,Yr 3,Y,Y,Y],T:=[(3,ty3),(121,kn)],S:=[],H:=[],res:=[.tmp 4],ios:=[],G:=gl0}
def lb:List D→Option Out:=aX HA Tryz.f89
@[reducible] def HY:FS:={pm:=[Y,Y],rm:=[Y],f:=lb}
theorem GM:au gl0 Tryz.prog 89 HY:=ay (c:=HA) al Tryz.func89 rfl rfl (by kernel_rfl)
@[reducible] def DE:Cx:={K:=[Y,Y,Y,.no,.no,.no,Y,Y,Y,Y,Y,Y,Y,Y,Y],T:=[(3,ty3)],S:=[],H:=[],res:=[.tmp 6],ios:=[],G:=gl0}
def bW:List D→Option Out:=aX DE Tryz.f52
@[reducible] def dK:FS:={pm:=[Y,Y,Y],rm:=[Y],f:=bW}
theorem dL:au gl0 Tryz.prog 52 dK:=ay (c:=DE) al Tryz.func52 rfl rfl (by kernel_rfl)
open Go Go.V
theorem Fh (x0:D):iR [x0]=((bin .lss false [] x0 (.v (Value.int IntKind.i32 48))).bind fun z=>(aj (.tup []) z false (some x0)).bind fun c=>(aj (.tup []) z false (bin .gtr false [] c (.v (Value.int IntKind.i32 57)))).bind fun d=>(aS z (B true) d).bind fun z=>some (.ret [z] [])):=by kernel_rfl
theorem Bo (x0 x1:D):dm [x0,x1]=((aA 1 []).bind fun a=>(lenD false x0).bind fun z=>(ba (fun s=>(bin .lss false [] (sl s 4) (sl s 3)).bind fun z=>ifD z ((Option.map D.ptr (aq 1 (sl s 2) (sl s 4))).bind fun z=>((ldD false 1 z).bind aM).bind fun z=>ac (KP [z]) fun c _=>(aA 1 [sl c 0]).bind fun a=>(cR a).bind fun b=>(bB 1 16 (sl s 1) b).bind fun y=>(bin .add false [] (sl s 4) (I 1)).bind fun z=>some (.nrm [sl s 0,y,sl s 2,sl s 3,z])) (some (.ext 0 [sl s 0,sl s 1]))) [x1,a,x0,z,I 0]).bind fun o=>bV o (fun i s=>ifN (i.beq 0) ((aa (sl s 1) (.ref 0 0)).bind fun z=>(aa z (sl s 1)).bind fun i=>ac (El [i,sl s 0]) fun c _=>some (.ret [sl c 0] [])) none) fun a b=>some (.ret a b)):=by kernel_rfl
theorem LS (x0 x1:D):jq [x0,x1]=((gu 3 x0).bind fun y=>(aa y (.ref 0 0)).bind fun z=>((atD y z).bind (an false 1)).bind fun z=>(aa y (.ref 0 1)).bind fun c=>((atD y c).bind (an false 1)).bind fun d=>(aa y (.ref 0 2)).bind fun e=>((atD y e).bind (an false 1)).bind fun f=>(aA 1 [z,d,f,x1]).bind fun a=>ac (dm [a,.v (.string ⟨⟨[32]⟩⟩)]) fun g _=>(bin .add false [] (sl g 0) (.v (.string ⟨⟨[10]⟩⟩))).bind fun z=>some (.ret [z] [])):=by kernel_rfl
theorem Tz (x0 x1:D):lb [x0,x1]=((gu 3 x1).bind fun y=>(bin .mul false [] (I 31) x0).bind fun z=>(aa y (.ref 0 0)).bind fun c=>((atD y c).bind (an false 1)).bind fun d=>(bin .mul false [] (I 17) d).bind fun e=>(bin .add false [] z e).bind fun z=>(aa y (.ref 0 1)).bind fun f=>((atD y f).bind (an false 1)).bind fun g=>(bin .mul false [] (I 5) g).bind fun h=>(bin .add false [] z h).bind fun z=>(aa y (.ref 0 2)).bind fun j=>((atD y j).bind (an false 1)).bind fun k=>(bin .add false [] z k).bind fun z=>(bin .rem false [] z (I 9973)).bind fun z=>some (.ret [z] [])):=by kernel_rfl
theorem QP (x0 x1 x2:D):bW [x0,x1,x2]=((bin .geq false [] x0 x1).bind fun z=>(aj (.tup []) z true (some x0)).bind fun c=>(aj (.tup []) z true (some x2)).bind fun d=>(aj (.tup []) z true (bin .leq false [] c d)).bind fun e=>(aS z e (B false)).bind fun z=>some (.ret [z] [])):=by kernel_rfl
end Go.Proofs.YtjafgdefcggjcaaGreatDoor

namespace Go.V
section
variable {k:IntKind} {a b:Int} {bl:Bool} {eq:List Nat}
@[simp] theorem bv:bin .add bl eq (.v (.int k a)) (.v (.int k b))=some (.v (.int k (k.wrap (a+b)))):=by simp [bin,mG]
@[simp] theorem cq:bin .sub bl eq (.v (.int k a)) (.v (.int k b))=some (.v (.int k (k.wrap (a - b)))):=by simp [bin,mG]
@[simp] theorem eG:bin .mul bl eq (.v (.int k a)) (.v (.int k b))=some (.v (.int k (k.wrap (a*b)))):=by simp [bin,mG]
@[simp] theorem md:bin .quo bl eq (.v (.int k a)) (.v (.int k b))=if b=0 then none else some (.v (.int k (k.wrap (a.tdiv b)))):=by simp [bin,mG]
@[simp] theorem aar:bin .rem bl eq (.v (.int k a)) (.v (.int k b))=if b=0 then none else some (.v (.int k (a.tmod b))):=by simp [bin,mG]
@[simp] theorem bg:bin .lss bl eq (.v (.int k a)) (.v (.int k b))=some (B (decide (a<b))):=by simp [bin,mG]
@[simp] theorem gr:bin .leq bl eq (.v (.int k a)) (.v (.int k b))=some (B (decide (a≤b))):=by simp [bin,mG]
@[simp] theorem eY:bin .gtr bl eq (.v (.int k a)) (.v (.int k b))=some (B (decide (b<a))):=by simp [bin,mG]
@[simp] theorem jM:bin .geq bl eq (.v (.int k a)) (.v (.int k b))=some (B (decide (b≤a))):=by simp [bin,mG]
@[simp] theorem fi:bin .eql bl eq (.v (.int k a)) (.v (.int k b))=some (B (decide (a=b))):=by
 have:(a==b)=decide (a=b):=rfl;simp [bin,mG,this]
@[simp] theorem iO:bin .neq bl eq (.v (.int k a)) (.v (.int k b))=some (B (!decide (a=b))):=by
 have:(a != b) = !decide (a=b):=rfl;simp [bin,mG,this]
@[simp] theorem aia {a b:Bool}:bin .eql true eq (B a) (B b)=some (B (a==b)):=by simp [bin]
@[simp] theorem Nr {a b:Bool}:bin .neq true eq (B a) (B b)=some (B !(a==b)):=by simp [bin]
@[simp] theorem fT {a b:ByteArray}:bin .add bl eq (T a) (T b)=if a.size+b.size≤1152921504606846976 then some (T (a++b)) else none:=by simp [bin,JX]
@[simp] theorem af {a b:ByteArray}:bin .eql bl eq (T a) (T b)=some (B (decide (a=b))):=by
 have:(a.toList==b.toList)=decide (a=b):=by
  rw [Bool.eq_iff_iff,beq_iff_eq,decide_eq_true_eq];constructor
  ·intro h
   have h1:∀s:ByteArray,s.toList=s.data.toList:=fun s=>by simp [ByteArray.toList_eq]
   rw [h1,h1] at h;cases a;cases b;simp at h;simp [h]
  ·rintro rfl;rfl
 simp [bin,JX,this]
@[simp] theorem ir {a b:ByteArray}:bin .neq bl eq (T a) (T b)=some (B (!decide (a=b))):=by
 have h:=af (a:=a) (b:=b) (bl:=bl) (eq:=eq);simp only [bin,JX,aiU,D.v.injEq,Value.bool.injEq] at h ⊢;rw [h]
@[simp] theorem bj {b:Bool}:un .not (B b)=some (B !b):=rfl
@[simp] theorem Uk:un .neg (.v (.int k a))=some (.v (.int k (k.wrap (-a)))):=by simp [un]
theorem ah (h1 : -9223372036854775808≤a) (h2:a<9223372036854775808):ajn.wrap a=a:=by
 simp [IntKind.wrap,IntKind.bits,IntKind.signed];split<;>omega
end
@[simp] theorem aH {c:Bool} {t e:Option Out}:ifD (B c) t e=if c=true then t else e:=by cases c<;>rfl
@[simp] theorem ep {c:Bool} {t e:Option Out}:ifN c t e=if c=true then t else e:=by cases c<;>rfl
@[simp] theorem eo {v:D} {c:Bool} {r:Option D}:aj v (B c) true r=if c=true then r else some v:=by cases c<;>rfl
@[simp] theorem bH {v:D} {c:Bool} {r:Option D}:aj v (B c) false r=if c=true then some v else r:=by cases c<;>rfl
@[simp] theorem xi {v:D} {p:Bool} {l:List D} {r:Option D}:aj v (.tup l) p r=some v:=rfl
@[simp] theorem UE {p:Bool} {l:List D} {r:Option Out} {alt:List D} {k:List D→Option Out}:cQ (.tup l) p r alt k=k alt:=rfl
def agL (r:Option Out) (k:List D→Option Out):Option Out :=
 match r with
 | some (.nrm l)=>k l
 | _=>none
@[simp] theorem bz {l:List D} {k:List D→Option Out}:agL (some (.nrm l)) k=k l:=rfl
@[simp] theorem MV {c:Bool} {r:Option Out} {alt:List D} {k:List D→Option Out}:cQ (B c) true r alt k=if c=true then agL r k else k alt:=by cases c<;>rfl
@[simp] theorem cb {c:Bool} {r:Option Out} {alt:List D} {k:List D→Option Out}:cQ (B c) false r alt k=if c=true then k alt else agL r k:=by cases c<;>rfl
@[simp] theorem aP {c:Bool} {a b:D}:aS (B c) a b=some (if c=true then a else b):=by cases c<;>rfl
@[simp] theorem am {rs us:List D} {k:List D→List D→Option Out}:ac (some (.ret rs us)) k=k rs us:=rfl
@[simp] theorem bF {i:Nat} {s:List D} {x:Nat→List D→Option Out} {r:List D→List D→Option Out}:bV (.ext i s) x r=x i s:=rfl
@[simp] theorem sT {a b:List D} {x:Nat→List D→Option Out} {r:List D→List D→Option Out}:bV (.ret a b) x r=r a b:=rfl
@[simp] theorem aiu {v:Value} {x:D}:aa (.v v) x=some x:=rfl
@[simp] theorem cy {z:Nat} {l:List D} {x:D}:aa (.arr z l) x=some x:=rfl
@[simp] theorem cz {l:List D} {x:D}:aa (.agg l) x=some x:=rfl
@[simp] theorem ch {i f:Nat} {x:D}:aa (.ref i f) x=some x:=rfl
@[simp] theorem ahq {l:List D} {x:D}:aa (.tup l) x=some x:=rfl
@[simp] theorem aL {z:Nat} {l:List D}:lenD false (.arr z l)=some (I l.length):=rfl
@[simp] theorem dV {s:ByteArray}:lenD true (T s)=some (I s.size):=rfl
@[simp] theorem ak {a:D} {l:List D}:sl (a::l) 0=a:=rfl
@[simp] theorem aE {a:D} {l:List D} {n:Nat}:sl (a::l) (n+1)=sl l n:=rfl
@[simp] theorem ahF {ag:Bool} {n off:Nat} {l:List D}:bf ag n off (.agg l)=an ag n (l.drop off):=rfl
@[simp] theorem bn {ag:Bool} {n:Nat} {l:List D}:ldD ag n (.ptr l)=an ag n l:=rfl
@[simp] theorem ej {off:Nat} {l:List D}:lD off (.ptr l)=some (.ptr (l.drop off)):=rfl
@[simp] theorem ait {n:Nat} {l:List D}:an true n l=if n≤l.length then some (.agg (l.take n)) else none:=rfl
@[simp] theorem aR {n:Nat} {a:D} {l:List D}:an false n (a::l)=some a:=rfl
@[simp] theorem fh {l:List D} {i f:Nat}:atD (.agg l) (.ref i f)=some (l.drop f):=rfl
@[simp] theorem ais {z:Nat} {l:List D} {i f:Nat}:atD (.arr z l) (.ref i f)=(l[i]?).map fun d=>d.cells.drop f:=rfl
@[simp] theorem iU {off i f:Nat}:aT off (.ref i f)=some (.ref i (f+off)):=rfl
@[simp] theorem wm {z:Nat} {l:List D} {k:IntKind} {i:Nat}:aq z (.arr z l) (.v (.int k (i:Int)))=(l[i]?).map D.cells:=by simp [aq]
@[simp] theorem lI {z:Nat} {l:List D} {k:IntKind} {i:Nat}:fd z (.arr z l) (.v (.int k (i:Int)))=if i<l.length then some (.ref i 0) else none:=by simp [fd]
@[simp] theorem af9 {l:List D}:(D.agg l).cells=l:=rfl
@[simp] theorem ahn {v:Value}:(D.v v).cells=[.v v]:=rfl
@[simp] theorem af3 {z:Nat} {l:List D}:(D.arr z l).cells=[.arr z l]:=rfl
@[simp] theorem bJ {v:Value}:aM (.v v)=some (.v v):=rfl
@[simp] theorem ah2 {l:List D}:aM (.agg l)=if l.all UX=true then some (.agg l) else none:=by
 have:(D.agg l).isV=l.all UX:=by
  simp only [D.isV];congr 1
 simp [aM,this]
@[simp] theorem aiR {v:Value}:UX (.v v)=true:=rfl
@[simp] theorem aid {z:Nat} {l:List D}:UX (.arr z l)=false:=rfl
@[simp] theorem ahG {v:Value}:(D.v v).single=true:=rfl
@[simp] theorem agP {z:Nat} {l:List D}:(D.arr z l).single=true:=rfl
@[simp] theorem ahm {l:List D}:(D.agg l).width=l.length:=rfl
@[simp] theorem aiq {v:Value}:(D.v v).width=1:=rfl
@[simp] theorem ahp {z:Nat} {l:List D}:(D.arr z l).width=1:=rfl
@[simp] theorem air {n:Nat} {x:D}:gu n x=if x.cells.length=n∧x.cells.all D.single=true then some (.agg x.cells) else none:=rfl
@[simp] theorem aiv {n i f:Nat} {l:List D} {x:D}:stD n (.agg l) (.ref i f) x=if x.cells.length=n∧f+n≤l.length∧x.cells.all D.single=true then some (.agg (putCells l f x.cells)) else none:=rfl
@[simp] theorem af5 {l:List D} {f:Nat} {vs:List D}:putCells l f vs=l.take f++vs++l.drop (f+vs.length):=rfl
@[simp] theorem aho {l:List D} {i:Nat}:ao (.tup l) i=match l[i]? with
  | some .bad=>none
  | some (.tup _)=>none
  | r=>r:=rfl
@[simp] theorem agH {l:List D} {i:Nat}:dy (.tup l) i = .tup (l.set i .bad):=rfl
@[simp] theorem MM {x:D}:cI (.ref 0 0) x=some x:=rfl
@[simp] theorem gH {z eb:Nat} {l m:List D}:bB z eb (.arr z l) (.arr z m)=if (l.length+m.length)*eb≤140737488355328∧l.length+m.length≤1152921504606846976 then some (.arr z (l++m)) else none:=by simp [bB]
@[simp] theorem agl {z:Nat} {l:List D} {k:IntKind} {i:Nat}:aq z (.arr z l) (.v (.int k ((i:Int)+1)))=(l[i+1]?).map D.cells:=wm (i:=i+1)
@[simp] theorem agB {z:Nat} {l:List D} {k:IntKind}:aq z (.arr z l) (.v (.int k 0))=(l[0]?).map D.cells:=wm (i:=0)
@[simp] theorem abU {z eb:Nat} {x:D} {k k':IntKind} {n m:Nat}:Nb z eb x (.v (.int k (n:Int))) (.v (.int k' (m:Int)))=if n≤m∧m*eb≤140737488355328∧m≤140737488355328 then some (.arr z (ajB n x)) else none:=by
 have h:((n:Int)≤m∧(m:Int)*(eb:Int)≤140737488355328∧(m:Int)≤140737488355328)↔(n≤m∧m*eb≤140737488355328∧m≤140737488355328):=by
  rw [←Int.natCast_mul];omega
 simp only [Nb,Int.natCast_nonneg,true_and,h,ajg]
theorem ado {z i:Nat} {L:List D} {v w:Value} (h:L[i]?=some (.v w)):stD 1 (.arr z L) (.ref i 0) (.v v)=some (.arr z (L.set i (.v v))):=by
 simp [stD,h,D.ofCells]
def afY {β:Type} (f:β→D) (z:D) (l:List β) (i:Nat):List D:=(l.take i).map f++ajB (l.length - i) z
section
variable {β:Type} {f:β→D} {z:D} {l:List β} {i:Nat}
@[simp] theorem aft (h:i≤l.length):(afY f z l i).length=l.length:=by simp [afY];omega
end
theorem acN {z i f:Nat} {L c:List D} {v:Value} (h:L[i]?=some (.agg c)) (hf:f<c.length):stD 1 (.arr z L) (.ref i f) (.v v)=some (.arr z (L.set i (.agg (putCells c f [.v v])))):=by
 have h2:(D.v v).cells=[.v v]:=rfl;have h3:f+1≤c.length:=hf;simp [stD,h,h2,h3,D.ofCells]
def agc {β:Type} (g:Nat→D) (f:β→D) (l:List β) (i:Nat):List D:=(List.range i).map g++(l.drop i).map f
section
variable {β:Type} {g:Nat→D} {f:β→D} {l:List β} {i:Nat}
@[simp] theorem ae3 (h:i≤l.length):(agc g f l i).length=l.length:=by simp [agc];omega
end
theorem be {z:Nat}:aA z []=some (.arr z []):=rfl
@[simp] theorem qg {β:Type} {z:Nat} {l:List β} {f:β→D} (h:∀x,(f x).isV=true):cR (.arr z (l.map f))=some (.arr z (l.map f)):=by
 have:(l.map f).all D.isV=true:=by simp [h]
 simp only [cR,this,if_true]
theorem mK {z i j:Nat} {l:List D} {k k':IntKind} (h1:i≤j) (h2:j≤l.length):dH false z (.arr z l) (.v (.int k (i:Int))) (.v (.int k' (j:Int)))=some (.arr z ((l.take j).drop i)):=by
 simp only [dH,ajg,true_and];rw [if_pos];omega
theorem mV {z i:Nat} {l:List D} {k:IntKind} (h:i≤l.length):cU false z (.arr z l) (.v (.int k (i:Int)))=some (.arr z (l.drop i)):=by
 simp only [cU,ajg,true_and];rw [if_pos];omega
theorem ab6 {a b:Int}:ajn.wrap (a+ajn.wrap (-b))=ajn.wrap (a - b):=by
 simp only [IntKind.wrap_i64];omega
@[simp] theorem aiS {p:Prop} [Decidable p] {a b:Bool}:(if p then D.v (.bool a) else D.v (.bool b))=D.v (.bool (if p then a else b)):=by split<;>rfl
theorem JF {body:List D→Option Out}:∀(n:Nat) (s:List D) (o:Out),iter body n s=some o→∀m,n≤m→iter body m s=some o
 | 0,_,_,h,_,_=>by simp [iter] at h
 | n+1,s,o,h,m,hm=>by
  obtain⟨m,rfl⟩:∃q,m=q+1:=⟨m - 1,by omega⟩
  simp only [iter] at h ⊢;split at h
  ·rename_i s' hb
   exact JF n s' o h m (by omega)
  ·exact h
theorem acF {body:List D→Option Out} {s:List D} {o:Out} (n:Nat) (h:iter body n s=some o):ba body s=some o:=by
 have hex:∃n,(iter body n s).isSome=true:=⟨n,by rw [h];rfl⟩
 unfold ba;rw [dif_pos hex];obtain⟨o',ho⟩:=ajj.1 (Classical.choose_spec hex);rw [ho];have h1:=JF _ _ _ ho (max n (ai8 hex)) (by omega);have h2:=JF _ _ _ h (max n (ai8 hex)) (by omega);rw [h1] at h2;exact h2
inductive Runs (body:List D→Option Out):List D→Out→Prop where
 | ext {s:List D} {i:Nat} {δ:List D}:body s=some (.ext i δ)→Runs body s (.ext i δ)
 | ret {s:List D} {rs us:List D}:body s=some (.ret rs us)→Runs body s (.ret rs us)
 | nrm {s s':List D} {o:Out}:body s=some (.nrm s')→Runs body s' o→Runs body s o
theorem Runs.iter {body:List D→Option Out} {s:List D} {o:Out} (h:Runs body s o):∃n,V.iter body n s=some o:=by
 induction h with
 | ext h=>exact⟨1,by simp [V.iter,h]⟩
 | ret h=>exact⟨1,by simp [V.iter,h]⟩
 | nrm h _ ih =>
  obtain⟨n,hn⟩:=ih;exact⟨n+1,by simp [V.iter,h,hn]⟩
theorem Runs.loop {body:List D→Option Out} {s:List D} {o:Out} (h:Runs body s o):ba body s=some o:=by
 obtain⟨n,hn⟩:=h.iter;exact acF n hn
def goL {α β:Type} (g:Nat→β→α→α ⊕ Out) (fin:α→Out):Nat→List β→α→Out
 | _,[],a=>fin a
 | i,x::l,a=>match g i x a with
  | .inl a'=>goL g fin (i+1) l a'
  | .inr o=>o
def Out.ends:Out→Bool
 | .nrm _=>false
 | _=>true
theorem Runs.one {body:List D→Option Out} {s:List D} {o:Out} (h:body s=some o) (ho:o.ends=true):Runs body s o:=by
 cases o with
 | nrm _=>simp [Out.ends] at ho
 | ext _ _=>exact .ext h
 | ret _ _=>exact .ret h
theorem Runs.list {α β:Type} {body:List D→Option Out} (l:List β) (st:Nat→α→List D) (Inv:Nat→α→Prop) (g:Nat→β→α→α ⊕ Out) (fin:α→Out)
  (hs:∀i x a,l[i]?=some x→Inv i a→match g i x a with
   | .inl a'=>body (st i a)=some (.nrm (st (i+1) a'))∧Inv (i+1) a'
   | .inr o=>body (st i a)=some o∧o.ends=true)
  (he:∀a,Inv l.length a→body (st l.length a)=some (fin a)∧(fin a).ends=true) (a:α) (h0:Inv 0 a):Runs body (st 0 a) (goL g fin 0 l a):=by
 have key:∀(n i:Nat) (a:α),i+n=l.length→Inv i a→Runs body (st i a) (goL g fin i (l.drop i) a):=by
  intro n;induction n with
  | zero =>
   intro i a hi hI;have:i=l.length:=by omega
   subst this;rw [List.drop_length];exact Runs.one (he a hI).1 (he a hI).2
  | succ n ih =>
   intro i a hi hI;have hlt:i<l.length:=by omega
   rw [List.drop_eq_getElem_cons hlt];have h:=hs i l[i] a (ai0 hlt) hI;simp only [goL];split at h
   ·exact .nrm h.1 (ih (i+1) _ (by omega) h.2)
   ·exact Runs.one h.1 h.2
 simpa using key l.length 0 a (by omega) h0
theorem Ck {α β:Type} {body:List D→Option Out} (l:List β) (st:Nat→α→List D) (Inv:Nat→α→Prop) (g:Nat→β→α→α ⊕ Out) (fin:α→Out)
  (hs:∀i x a,l[i]?=some x→Inv i a→match g i x a with
   | .inl a'=>body (st i a)=some (.nrm (st (i+1) a'))∧Inv (i+1) a'
   | .inr o=>body (st i a)=some o∧o.ends=true)
  (he:∀a,Inv l.length a→body (st l.length a)=some (fin a)∧(fin a).ends=true) (a:α) (h0:Inv 0 a) {s0:List D} (h:s0=st 0 a):ba body s0=some (goL g fin 0 l a):=by
 rw [h];exact(Runs.list l st Inv g fin hs he a h0).loop
theorem aY {body:List D→Option Out} (n:Nat) (st:Nat→List D) (o:Out) (hs:∀i,i<n→body (st i)=some (.nrm (st (i+1)))) (he:body (st n)=some o) (ho:o.ends=true) {s0:List D} (h:s0=st 0):ba body s0=some o:=by
 rw [h];have key:∀(m i:Nat),i+m=n→Runs body (st i) o:=by
  intro m;induction m with
  | zero =>
   intro i hi;have:i=n:=by omega
   subst this;exact Runs.one he ho
  | succ m ih=>exact fun i hi=>.nrm (hs i (by omega)) (ih (i+1) (by omega))
 exact(key n 0 (by omega)).loop
def jD {β:Type} (p:Nat→β→Bool):Nat→List β→Bool
 | _,[]=>true
 | i,x::l=>p i x&&jD p (i+1) l
theorem pY {β:Type} {body:List D→Option Out} (l:List β) (st:Nat→List D) (p:Nat→β→Bool) (o1 o2:Out) (hs:∀(i:Nat) (hi:i<l.length),body (st i)=some (if p i l[i]=true then .nrm (st (i+1)) else o1)) (he:body (st l.length)=some o2)
  (h1:o1.ends=true) (h2:o2.ends=true) {s0:List D} (h:s0=st 0):ba body s0=some (if jD p 0 l=true then o2 else o1):=by
 have e:∀(m:List β) (i:Nat),goL (fun i x (_:Unit)=>if p i x=true then .inl () else .inr o1) (fun _=>o2) i m ()=if jD p i m=true then o2 else o1:=by
  intro m;induction m with
  | nil=>intro i;simp [goL,jD]
  | cons x m ih =>
   intro i;simp only [goL,jD];by_cases hp:p i x=true
   ·simp [hp,ih]
   ·simp [hp]
 rw [←e];refine Ck l (fun i _=>st i) (fun _ _=>True) _ _ (fun i x a hx _=>?_) (fun _ _=>⟨he,h2⟩) () trivial h
 have hi:i<l.length:=(aiW.1 hx).1;have hxe:l[i]=x:=(aiW.1 hx).2;have:=hs i hi;rw [hxe] at this;by_cases hp:p i x=true
 ·simpa [hp] using this
 ·simpa [hp,h1] using this
def DF {α β:Type} (f:Nat→α→β→α):Nat→List β→α→α
 | _,[],a=>a
 | i,x::l,a=>DF f (i+1) l (f i a x)
theorem Qd {α β:Type} {body:List D→Option Out} (l:List β) (st:Nat→α→List D) (Inv:Nat→α→Prop) (f:Nat→α→β→α) (fin:α→Out) (a:α) (hs:∀(i:Nat) (a:α) (hi:i<l.length),Inv i a→body (st i a)=some (.nrm (st (i+1) (f i a l[i])))∧Inv (i+1) (f i a l[i]))
  (he:∀a,Inv l.length a→body (st l.length a)=some (fin a)) (h1:∀a,(fin a).ends=true) (h0:Inv 0 a) {s0:List D} (h:s0=st 0 a):ba body s0=some (fin (DF f 0 l a)):=by
 have e:∀(m:List β) (i:Nat) (a:α),goL (fun i x a=>.inl (f i a x)) fin i m a=fin (DF f i m a):=by
  intro m;induction m with
  | nil=>intro i a;rfl
  | cons x m ih=>intro i a;simp only [goL,DF];exact ih (i+1) (f i a x)
 rw [←e l 0 a];refine Ck l st Inv (fun i x a=>.inl (f i a x)) _ (fun i x a hx hI=>?_) (fun a hI=>⟨he a hI,h1 a⟩) a h0 h
 have hi:i<l.length:=(aiW.1 hx).1;have hxe:l[i]=x:=(aiW.1 hx).2;rw [←hxe];exact hs i a hi hI
theorem aG {body:List D→Option Out} {s0:List D} {K:Out→Option Out} {r:Option Out} (o:Out) (h:ba body s0=some o) (hk:K o=r):(ba body s0).bind K=r:=by
 rw [h];exact hk
theorem aeR {α:Type} {body:List D→Option Out} (st:α→List D) (Inv:α→Prop) (μ:α→Nat) (Q:α→Out→Prop)
  (hs:∀a,Inv a→(∃a',body (st a)=some (.nrm (st a'))∧Inv a'∧μ a'<μ a∧∀o,Q a' o→Q a o)∨∃o,body (st a)=some o∧o.ends=true∧Q a o) (a:α) (h:Inv a) {s0:List D} (h0:s0=st a):∃o,ba body s0=some o∧Q a o:=by
 rw [h0];have key:∀(n:Nat) (a:α),μ a<n→Inv a→∃o,Runs body (st a) o∧Q a o:=by
  intro n;induction n with
  | zero=>exact fun a h=>by omega
  | succ n ih =>
   intro a hn hI;rcases hs a hI with ⟨a',h1,h2,h3,h4⟩ | ⟨o,h1,h2,h3⟩
   ·obtain⟨o,h5,h6⟩:=ih a' (by omega) h2
    exact⟨o,.nrm h1 h5,h4 o h6⟩
   ·exact⟨o,Runs.one h1 h2,h3⟩
 obtain⟨o,h1,h2⟩:=key (μ a+1) a (by omega) h;exact⟨o,h1.loop,h2⟩
theorem bL {α:Type} {body:List D→Option Out} {K:Out→Option Out} (R:Option Out→Prop) (st:α→List D) (Inv:α→Prop) (μ:α→Nat) (Q:Out→Prop)
  (hs:∀a,Inv a→(∃a',body (st a)=some (.nrm (st a'))∧Inv a'∧μ a'<μ a)∨∃o,body (st a)=some o∧o.ends=true∧Q o) (a:α) (h:Inv a) {s0:List D} (h0:s0=st a) (hk:∀o,Q o→R (K o)):R ((ba body s0).bind K):=by
 obtain⟨o,h1,h2⟩:=aeR st Inv μ (fun _ o=>Q o) (fun a ha=>by
  rcases hs a ha with ⟨a',g1,g2,g3⟩ | h
  ·exact .inl ⟨a',g1,g2,g3,fun _ h=>h⟩
  ·exact .inr h) a h h0
 rw [h1];exact hk o h2
theorem aw:(type_of% @ak)∧(type_of% @aE)∧(type_of% @cz)∧(type_of% @ch)∧(type_of% @cy)∧(type_of% @MM)∧(∀{α β:Type} (a:α) (f:α→Option β),(some a).bind f=f a)∧(∀{α β:Type} (a:α) (f:α→β),(some a).map f=some (f a))∧(type_of% @am)∧(type_of% @eo)∧(type_of% @bH)∧(type_of% @xi)∧(type_of% @MV)∧(type_of% @cb)∧(type_of% @UE)∧(type_of% @bz)∧(type_of% @aP)∧(type_of% @aH)∧(type_of% @ep)∧(∀{α:Type} {_h:Decidable True} (t e:α),(if True then t else e)=t)∧(∀{α:Type} {_h:Decidable False} (t e:α),(if False then t else e)=e)∧(type_of% @aiV)∧(type_of% @bj)∧(type_of% @Bool.not_true)∧(type_of% @ajC)∧(type_of% @decide_true)∧(type_of% @decide_false)∧(type_of% @and_self)∧(type_of% @bF)∧(type_of% @Nat.beq_refl)∧(type_of% @bg)∧(type_of% @eY)∧(type_of% @gr)∧(type_of% @jM)∧(type_of% @fi)∧(type_of% @iO)∧(type_of% @bv)∧(type_of% @cq)∧(type_of% @eG)∧(type_of% @aL)∧(type_of% @dV)∧(∀{α β:Type} {l:List α} (f:α→β),(l.map f).length=l.length)∧(type_of% @bn)∧(type_of% @aR)∧(type_of% @bJ)∧(type_of% @ej)∧(∀{α:Type} {l:List α},l.drop 0=l)∧(∀{α:Type} {a:α} {l:List α} {i:Nat},(a::l).drop (i+1)=l.drop i)∧(type_of% @fh)∧(type_of% @be) :=
 ⟨@ak,⟨@aE,⟨@cz,⟨@ch,⟨@cy,⟨@MM,⟨@Option.bind_some,⟨@Option.map_some,⟨@am,⟨@eo,⟨@bH,⟨@xi,⟨@MV,⟨@cb,⟨@UE,⟨@bz,⟨@aP,⟨@aH,⟨@ep,⟨@if_true,⟨@if_false,⟨@aiV,⟨@bj,⟨@Bool.not_true,⟨@ajC,⟨@decide_true,⟨@decide_false,⟨@and_self,⟨@bF,⟨@Nat.beq_refl,⟨@bg,⟨@eY,⟨@gr,⟨@jM,⟨@fi,⟨@iO,⟨@bv,⟨@cq,⟨@eG,⟨@aL,⟨@dV,⟨@ajx,⟨@bn,⟨@aR,⟨@bJ,⟨@ej,⟨@ajA,⟨@List.drop_succ_cons,⟨@fh,@be⟩⟩⟩⟩⟩⟩⟩⟩⟩⟩⟩⟩⟩⟩⟩⟩⟩⟩⟩⟩⟩⟩⟩⟩⟩⟩⟩⟩⟩⟩⟩⟩⟩⟩⟩⟩⟩⟩⟩⟩⟩⟩⟩⟩⟩⟩⟩⟩⟩
end Go.V

namespace Go.Proofs.YtjafgdefcggjcaaGreatDoor
open Go Go.V
theorem FK (x:Int):iR [.v (.int .i32 x)]=some (.ret [B (decide (x<48)||decide (57<x))] []):=by
 rw [Fh];by_cases h:x<48<;>simp [h]
def tb (x:Nat):Bool:=decide (x<48)||decide (57<x)
@[reducible] def qa:FS:=Io 132 tb
theorem Bu:au gl0 Tryz.prog 131 qa :=
 Um Tryz.lays229 (by kernel_rfl) (ajc Tryz.func132 (by kernel_rfl) rfl) Fp rfl rfl
  (fun x _=>by
   show iR _=_
   rw [FK];have h1:((x:Int)<48)↔x<48:=by omega
   have h2:((57:Int)<x)↔57<x:=by omega
   simp only [tb,h1,h2]) (by kernel_rfl) (by kernel_rfl)
end Go.Proofs.YtjafgdefcggjcaaGreatDoor

namespace Go.V
open Go.RowKit
@[reducible] def sJ (K:List Kd) (fz:List Nat) (s:Nat) (k:Kd):Kd :=
 match k with
 | .own z lv false=>match oL s fz with
  | true=>.dat (Rw 1 lv)
  | false=>.own z lv false
 | .via r=>match oL r fz with
  | true=>.dat (Rw 1 (fS K r))
  | false=>.via r
 | .ref r=>match oL r fz with
  | true=>.dat (Rw 1 (fS K r))
  | false=>.ref r
 | k=>k
@[reducible] def Ul (K:List Kd) (fz:List Nat):List Kd→Nat→List Kd
 | [],_=>[]
 | k::l,s=>sJ K fz s k::Ul K fz l (Nat.succ s)
@[reducible] def rcx (c:Cx) (fz:List Nat):Cx:={c with K:=Ul c.K fz c.K 0}
def WC (p x:D):D :=
 match p with
 | .bad=>.bad
 | _=>x
@[reducible] def acI (K:List Kd) (δ:List D):List Nat→(List D→Option Out)→Option Out
 | [],k=>k []
 | s::ss,k=>match aD K s with
  | .via r=>iY δ s fun p=>iY δ r fun x=>acI K δ ss fun l=>k (WC p x::l)
  | _=>acI K δ ss fun l=>k (.bad::l)
def acE:List ResultVar→List Nat
 | []=>[]
 | .tmp t::l=>t::acE l
 | .cell a _::l=>a::acE l
def ZD (c:Cx) (fz:List Nat):List Nat:=fz++bu c.K fz
def afS (c:Cx) (fz:List Nat):Bool :=
 (fz.all fun s=>match aD c.K s with
  | .own _ _ false=>true
  | _=>false)&&((acE c.res).all fun s=>!oL s (ZD c fz))&&(c.ios.all fun s=>!oL s (ZD c fz))
section
variable {P:Program} {c:Cx} {B:Nat} {X:Nat→Prop} {w0:World} {F0 F:Nat→Prop} {O:Nat→Option (Nat × Nat)} {a:Act} {w:World} {δ:List D} {fz:List Nat}
theorem AM (K:List Kd) (fz:List Nat):∀(l:List Kd) (s:Nat),(Ul K fz l s).length=l.length
 | [],_=>rfl
 | _::l,s=>by simp [Ul,AM K fz l]
theorem Sm (K:List Kd) (fz:List Nat):∀(l:List Kd) (s i:Nat),aD (Ul K fz l s) i=sJ K fz (s+i) (aD l i)
 | [],s,i=>by simp [Ul,aD,sJ]
 | k::l,s,0=>by simp [Ul,aD]
 | k::l,s,i+1=>by
  simp only [Ul,aD];rw [Sm K fz l (Nat.succ s) i,show Nat.succ s+i=s+(i+1) by omega]
theorem wQ (c:Cx) (fz:List Nat) (s:Nat):aD (rcx c fz).K s=sJ c.K fz s (aD c.K s):=by
 show aD (Ul c.K fz c.K 0) s=_
 rw [Sm,ai3]
theorem Nz (h:afS c fz=true) {s:Nat} (hs:s∈fz):∃z lv,aD c.K s = .own z lv false:=by
 unfold afS at h;simp only [aiT,ai7] at h;have:=h.1.1 s hs;split at this
 ·exact⟨_,_,‹_›⟩
 ·cases this
theorem Am {s:Nat} {l:List Nat} (h:s∈l):oL s l=true:=by rw [jZ];exact decide_eq_true h
theorem oK {s:Nat} {l:List Nat} (h:s∉l):oL s l=false:=by rw [jZ];exact decide_eq_false h
theorem VJ {r:Nat} (hr:r∉fz) (h:eN c.K r):aD (rcx c fz).K r=aD c.K r:=by
 rw [wQ];unfold eN at h;generalize aD c.K r=k at h;cases k
 case own z lv io=>cases io<;>simp [sJ,oK hr]
 case box n lv io=>rfl
 all_goals exact h.elim
theorem WI {r:Nat} (h:eN (rcx c fz).K r):eN c.K r∧aD (rcx c fz).K r=aD c.K r:=by
 unfold eN at h ⊢;rw [wQ] at h ⊢;generalize aD c.K r=k at h;cases k
 case own z lv io =>
  refine⟨trivial,?_⟩
  cases io
  case true=>rfl
  by_cases hr:r∈fz
  ·simp [sJ,Am hr] at h
  ·simp [sJ,oK hr]
 case box n lv io=>exact⟨trivial,rfl⟩
 case via r'=>by_cases hr:r'∈fz<;>simp [sJ,Am,oK,hr] at h
 case ref r'=>by_cases hr:r'∈fz<;>simp [sJ,Am,oK,hr] at h
 all_goals exact h.elim
theorem ac1 (s:Nat):vd (aD (rcx c fz).K s)=vd (aD c.K s):=by
 rw [wQ];generalize aD c.K s=k;cases k
 case own z lv io =>
  cases io
  case true=>rfl
  by_cases hr:s∈fz
  ·simp [sJ,Am hr,vd]
  ·simp [sJ,oK hr]
 case via r'=>by_cases hr:r'∈fz<;>simp [sJ,Am,oK,hr,vd]
 case ref r'=>by_cases hr:r'∈fz<;>simp [sJ,Am,oK,hr,vd]
 all_goals rfl
theorem Wf {K K':List Kd} {r:Nat} (h:aD K' r=aD K r):ql K' r=ql K r:=by unfold ql;rw [h]
theorem agO {F':Nat→Prop} {b lv:Nat} (h1:F' b) (h2:B≤b):FB F' B (Rw 1 lv) b:=by
 rw [Cd]
 match lv with
 | 0=>exact⟨h1,h2⟩
 | 1=>exact⟨h1,h2⟩
 | n+2 =>
  rw [Nat.max_eq_right (by omega)];exact h1
def RC (K:List Kd) (δ:List D) (s:Nat):D :=
 match aD K s with
 | .via r=>WC (nth δ s) (nth δ r)
 | _=>.bad
theorem Tv (K:List Kd) (δ:List D):∀(ss:List Nat) (k:List D→Option Out),acI K δ ss k=k (ss.map (RC K δ))
 | [],_=>rfl
 | s::ss,k=>by
  simp only [acI,List.map_cons,RC];split
  ·simp only [fH]
   exact Tv K δ ss _
  ·exact Tv K δ ss _
theorem qH (f:Nat→D):∀(ss:List Nat) (δ:List D) (s:Nat),s∈ss→nth (az δ ss (ss.map f)) s=if s<δ.length then f s else .bad
 | i::ss,δ,s,h=>by
  simp only [List.map_cons,az];by_cases hs:s∈ss
  ·rw [qH f ss _ s hs,jA]
  ·rw [aF _ _ _ _ hs]
   have:s=i:=by simpa [hs] using h
   subst this;exact cO _ _ _
open Classical in
theorem Inv.recast (h:Inv c B X w0 F0 F O a w δ) (hfz:afS c fz=true):∃F' O',Inv (rcx c fz) B X w0 F0 F' O' a w (az δ (bu c.K fz) ((bu c.K fz).map (RC c.K δ))):=by
 let G:Nat→Prop:=fun b=>∃s∈fz,O b=some (s,0)∧B≤b
 have hF:∀b,F b→F b∨G b:=fun b hb=>.inl hb
 have hG:∀(b s i:Nat),O b=some (s,i)→(i=0→s∉fz)→¬G b:=by
  rintro b s i h1 h2 ⟨s',h3,h4,_⟩;rw [h1] at h4;cases h4;exact h2 rfl h3
 refine⟨fun b=>F b∨G b,fun b=>if G b then none else O b,?_⟩
 have hO:∀(b s i:Nat),(i=0→s∉fz)→O b=some (s,i)→(if G b then none else O b)=some (s,i):=fun b s i h2 h1=>by rw [if_neg (hG b s i h1 h2),h1]
 have own:∀r∈fz,nth δ r ≠ .bad→bU w (FB (fun b=>F b∨G b) B (Rw 1 (fS c.K r))) (nth δ r) (av a r):=by
  intro r hr hb;obtain⟨z,lv,hk⟩:=Nz hfz hr;have h0:=(h.slot r).resolve_left hb;rw [hk] at h0;have h1:=h0.resolve_left hb;simp only [fS,hk];refine co (fun b hb=>?_) (fun _ _=>rfl) (nT h1)
  rcases hb with hb | hb
  ·exact qv (by rw [Cd];exact Nat.le_max_right _ _) b (kc hF b hb)
  ·exact agO (.inr ⟨r,hr,hb.1,hb.2 rfl⟩) (hb.2 rfl)
 refine⟨h.la.trans (AM _ _ _ _).symm,(ed _ _ _).trans (h.ld.trans (AM _ _ _ _).symm),h.df,fun s=>?_,fun b hb=>?_,fun b p hp=>?_,fun b hb=>.inl (h.f0 b hb),fun b hb=>?_,h.bb,h.os,h.tape,h.output,h.keep,iu (fun b hb=>.inl hb) (fun _ _=>rfl) h.gl⟩
 ·by_cases hd:s∈bu c.K fz
  ·by_cases hlt:s<δ.length
   case neg =>
    refine .inl ?_
    rw [qH _ _ _ _ hd,if_neg hlt]
   have e:nth (az δ (bu c.K fz) ((bu c.K fz).map (RC c.K δ))) s=RC c.K δ s:=by rw [qH _ _ _ _ hd,if_pos hlt]
   obtain⟨r,hr,hk⟩:=xd _ hd;rcases hk with hk | hk
   case inr=>exact .inl (e.trans (by simp only [RC,hk]))
   have e2:RC c.K δ s=WC (nth δ s) (nth δ r):=by simp only [RC,hk]
   by_cases hb:nth δ s = .bad
   ·refine .inl (e.trans (e2.trans ?_))
    rw [hb];rfl
   have e3:WC (nth δ s) (nth δ r)=nth δ r:=by
    generalize nth δ s=q at hb;cases q<;>first | rfl | exact absurd rfl hb
   have h0:=(h.slot s).resolve_left hb;rw [hk] at h0;obtain⟨b1,b2,b3,b4⟩:=h0;refine .inr ?_
   rw [wQ,hk,e,e2,e3];simp only [sJ,Am hr];exact .inr (by rw [b1];exact own r hr b3)
  have e:nth (az δ (bu c.K fz) ((bu c.K fz).map (RC c.K δ))) s=nth δ s:=aF _ _ _ _ hd;by_cases hb:nth δ s = .bad
  ·exact .inl (e.trans hb)
  have h0:=(h.slot s).resolve_left hb;refine .inr ?_
  have hkeep:∀r,eN c.K r→nth (az δ (bu c.K fz) ((bu c.K fz).map (RC c.K δ))) r=nth δ r:=fun r hr=>aF _ _ _ _ (uX hr _)
  rw [wQ,e];generalize hk:aD c.K s=k at h0;cases k
  case dat lv=>exact h0.imp id (co (kc hF) (fun _ _=>rfl))
  case own z lv io =>
   have h1:=h0.resolve_left hb;by_cases hs:s∈fz
   ·obtain⟨z',lv',hk'⟩:=Nz hfz hs
    rw [hk] at hk';cases hk';simp only [sJ,Am hs];have ho:=own s hs hb;simp only [fS,hk] at ho;exact .inr ho
   ·have e2:sJ c.K fz s (.own z lv io) = .own z lv io:=by cases io<;>simp [sJ,oK hs]
    rw [e2];exact .inr (Sn (kc hF) (fun _ _=>rfl) (fun g hg=>⟨⟨hO g s 0 (fun _=>hs) hg.1,hg.2⟩,rfl⟩) h1)
  case box n lv io =>
   have h1:=h0.resolve_left hb;have hs:s∉fz:=fun hs=>by
    obtain⟨z',lv',hk'⟩:=Nz hfz hs;rw [hk] at hk';cases hk'
   exact .inr (BT (kc hF) (fun _ _=>rfl) (fun g hg=>⟨⟨hO g s 0 (fun _=>hs) hg.1,hg.2⟩,rfl⟩) h1)
  case via r =>
   have hr:r∉fz:=fun hr=>hd (mX (.inl hk) _ hr)
   obtain⟨b1,b2,b3,b4⟩:=h0;simp only [sJ,oK hr];exact⟨b1,b2,by rw [hkeep r (oY b4)];exact b3,by rw [Wf (VJ hr (oY b4))];exact b4⟩
  case ref r =>
   have hr:r∉fz:=fun hr=>hd (mX (.inr hk) _ hr)
   obtain⟨i,f,b1,b2,b3⟩:=h0;simp only [sJ,oK hr];exact⟨i,f,b1,by rw [hkeep r (mY b3)];exact b2,by rw [VJ hr (mY b3)];exact b3⟩
  case tup ms =>
   obtain⟨l,vs,b1,b2,b3⟩:=h0;exact⟨l,vs,b1,b2,fun i=>Cm hF (fun _ _=>rfl) (fun g hg=>⟨hO g s (i+1) (fun h=>by omega) hg,rfl⟩) (b3 i)⟩
  case no=>trivial
 ·rcases hb with hb | hb
  ·obtain⟨h1,h2⟩:=h.fl b hb
   refine⟨h1,?_⟩
   simp only [h2];split<;>rfl
  ·obtain⟨s,h1,h2,h3⟩:=hb
   exact⟨(h.ol b _ h2).1,if_pos ⟨s,h1,h2,h3⟩⟩
 ·split at hp
  ·cases hp
  ·exact h.ol b p hp
 ·rcases hb with hb | ⟨s,h1,h2,h3⟩
  ·exact h.fn b hb
  ·exact .inr h3
theorem Inv.uncast (h:Inv (rcx c fz) B X w0 F0 F O a w δ):Inv c B X w0 F0 F O a w (az δ (ZD c fz) []):=by
 refine⟨h.la.trans (AM _ _ _ _),(ed _ _ _).trans (h.ld.trans (AM _ _ _ _)),h.df,fun s=>?_,h.fl,h.ol,h.f0,h.fn,h.bb,h.os,h.tape,h.output,h.keep,h.gl⟩
 by_cases hd:s∈ZD c fz
 ·exact .inl (nj _ _ _ hd)
 have e:nth (az δ (ZD c fz) []) s=nth δ s:=aF _ _ _ _ hd;by_cases hb:nth δ s = .bad
 ·exact .inl (e.trans hb)
 have h0:=(h.slot s).resolve_left hb;refine .inr ?_
 have hs:s∉fz:=fun hs=>hd (aja _ hs)
 have hdp:s∉bu c.K fz:=fun hs=>hd (List.mem_append_right _ hs)
 have hkeep:∀r,r∉fz→eN c.K r→nth (az δ (ZD c fz) []) r=nth δ r:=fun r h1 h2=>aF _ _ _ _ fun hm=>by
  rcases ai2.1 hm with hm | hm
  ·exact h1 hm
  ·exact uX h2 _ hm
 rw [wQ] at h0;rw [e];generalize hk:aD c.K s=k at h0;cases k
 case own z lv io =>
  have e2:sJ c.K fz s (.own z lv io) = .own z lv io:=by cases io<;>simp [sJ,oK hs]
  rw [e2] at h0;exact h0
 case via r =>
  have hr:r∉fz:=fun hr=>hdp (mX (.inl hk) _ hr)
  simp only [sJ,oK hr] at h0;obtain⟨b1,b2,b3,b4⟩:=h0;obtain⟨g1,g2⟩:=WI (oY b4);exact⟨b1,b2,by rw [hkeep r hr g1];exact b3,by rw [←Wf g2];exact b4⟩
 case ref r =>
  have hr:r∉fz:=fun hr=>hdp (mX (.inr hk) _ hr)
  simp only [sJ,oK hr] at h0;obtain⟨i,f,b1,b2,b3⟩:=h0;obtain⟨g1,g2⟩:=WI (mY b3);exact⟨i,f,b1,by rw [hkeep r hr g1];exact b2,by rw [←g2];exact b3⟩
 all_goals exact h0
end
end Go.V

namespace Go.V
open Go.RowKit
@[reducible] def Ct (c:Cx) (Z:List (Nat × List Nat)):Nat→Code→List D→(Out→Option Out)→Option Out
 | _,.skip,δ,k=>k (.nrm δ)
 | _,.region id ops _,δ,k=>match en Z id with
  | some fz=>acI c.K δ (bu c.K fz) fun l=>fe δ (bu c.K fz) l fun δ'=>mF (rcx c fz) ops.toList ops.toList δ' fun δ2=>fe δ2 fz [] fun δ3=>fe δ3 (bu c.K fz) [] fun δ4=>k (.nrm δ4)
  | none=>mF c ops.toList ops.toList δ fun δ'=>k (.nrm δ')
 | bid,.seq a b,δ,k=>Ct c Z bid a δ fun o=>ac3 o (fun δ'=>Ct c Z bid b δ' k) k
 | bid,.cond x t e,δ,k=>opC δ x fun q=>ifD q (Ct c Z bid t δ k) (Ct c Z bid e δ k)
 | _,.block id b,δ,k=>Ct c Z id b δ fun o=>LL id o k
 | bid,.loop b,δ,k=>match en c.H bid with
  | none=>none
  | some (hl,xl) =>
   uT δ hl fun s=>(ba (fun s=>iX (lB c.K) hl s fun δ=>Ct c Z bid b δ (ck hl xl)) s).bind fun o =>
    bV o (fun i s=>iX (lB c.K) xl s fun δ=>k (.ext i δ)) (fun a b=>k (.ret a b))
 | _,.exit id,δ,k=>k (.ext id δ)
 | _,.ret,δ,k=>sg c δ c.res fun rs=>uT δ c.ios fun us=>usK us (k (.ret rs us))
 | _,_,_,_=>none
@[reducible] def vM (c:Cx) (Z:List (Nat × List Nat)) (fn:Func) (ds:List D):Option Out :=
 match fn.body with
 | none=>none
 | some b=>Ct c Z 0 b (vB fn.ntmps ds) fun o=>match o with
  | .nrm δ=>sg c δ c.res fun rs=>uT δ c.ios fun us=>usK us (some (.ret rs us))
  | .ext _ _=>none
  | .ret rs us=>some (.ret rs us)
def gX (c:Cx) (Z:List (Nat × List Nat)):Nat→Code→Bool
 | _,.skip=>true
 | bid,.region id ops d=>match en Z id with
  | some fz=>afS c fz&&eR (rcx c fz) bid (.region id ops d)
  | none=>eR c bid (.region id ops d)
 | b,.seq x y=>gX c Z b x&&gX c Z b y
 | b,.cond x t e=>Nat.ble (gw c.K x) 2&&gX c Z b t&&gX c Z b e
 | _,.block id x=>gX c Z id x
 | b,.loop x=>gX c Z b x&&(match en c.H b with
  | some (hl,xl)=>nq c.K hl&&nq c.K xl
  | none=>false)
 | _,.exit _=>true
 | _,.ret=>true
 | _,_=>false
def adS (c:Cx) (Z:List (Nat × List Nat)) (fn:Func) (pm rm:List Kd):Bool :=
 (match fn.body with
  | some b=>gX c Z 0 b
  | none=>false)&&aju (lB c.K) fn.ntmps&&Ti pm c.K&&ni pm&&dJ c c.res rm&&decide (c.ios=zF 0 pm)
section
variable {P:Program} {c:Cx} {B:Nat} {X:Nat→Prop} {w0:World} {F0 F:Nat→Prop} {O:Nat→Option (Nat × Nat)} {a:Act} {w:World} {δ:List D} {fz:List Nat}
theorem KL:∀(ss ts:List Nat) (δ:List D),az (az δ ss []) ts []=az δ (ss++ts) []
 | [],_,_=>rfl
 | i::ss,ts,δ=>by
  simp only [List.cons_append,az];exact KL ss ts _
def unK (c:Cx) (fz:List Nat) (k:Out→Option Out) (o:Out):Option Out :=
 match o with
 | .nrm δ=>k (.nrm (az δ (ZD c fz) []))
 | _=>none
theorem Hi {V:Nat→Value} {b:Code} {bid:Nat} {Z:List (Nat × List Nat)} {hl xl:List Nat} (h1:nq c.K hl=true) (h2:nq c.K xl=true)
  (ih:∀(F:Nat→Prop) (O:Nat→Option (Nat × Nat)) (a:Act) (w:World) (δ:List D),Inv c B X w0 F0 F O a w δ→IoV c V a→∀(k:Out→Option Out) (r:Out),Ct c Z bid b δ k=some r→∀Q,(∀e a w,TK c B X w0 F0 V k r e a w→Q e a w)→b.wp P Q a w)
  {k:Out→Option Out} {r:Out} {Q:Exit→Act→World→Prop} (hQ:∀e a w,TK c B X w0 F0 V k r e a w→Q e a w) {o:Out}
  (ho:bV o (fun i s=>iX (lB c.K) xl s fun δ=>k (.ext i δ)) (fun x y=>k (.ret x y))=some r):∀(n:Nat) (F:Nat→Prop) (O:Nat→Option (Nat × Nat)) (a:Act) (w:World) (δ:List D),Inv c B X w0 F0 F O a w δ→IoV c V a →
  iter (fun s=>iX (lB c.K) hl s fun δ=>Ct c Z bid b δ (ck hl xl)) n (aB δ hl)=some o→Code.rounds P b Q n a w
 | 0,_,_,_,_,_,_,_,h=>by cases h
 | n+1,F,O,a,w,δ,hI,hV,h=>by
  simp only [iter,mM] at h;rw [rounds_succ];have hI':=hI.carry h1;cases hb:Ct c Z bid b (carry (lB c.K) hl δ) (ck hl xl) with
  | none=>rw [hb] at h;cases h
  | some ob =>
   rw [hb] at h;refine ih F O a w _ hI' hV _ ob hb _ (fun e a' w' hp=>?_)
   cases ob with
   | nrm s' =>
    simp only at h;cases e with
    | normal =>
     obtain⟨⟨F',O',δ',g1,g2⟩,g3⟩:=hp;simp only [ck,cg,aiU,Out.nrm.injEq] at g2;rw [←g2] at h;exact Hi h1 h2 ih hQ ho n F' O' a' w' δ' g1 g3 h
    | exit i =>
     obtain⟨⟨F',O',δ',g1,g2⟩,g3⟩:=hp;simp [ck,cg] at g2
    | ret =>
     obtain⟨⟨F',O',δ',g1,g2⟩,g3⟩:=hp;obtain⟨rs,_,_,g4⟩:=hY g2;simp [ck] at g4
    | _=>exact hp.elim
   | ext i l =>
    simp only [aiU] at h;subst h;cases e with
    | normal =>
     obtain⟨⟨F',O',δ',g1,g2⟩,g3⟩:=hp;simp [ck,cg] at g2
    | exit j =>
     obtain⟨⟨F',O',δ',g1,g2⟩,g3⟩:=hp;simp only [ck,cg,aiU,Out.ext.injEq] at g2;obtain⟨rfl,rfl⟩:=g2;simp only [bV,mM] at ho;exact hQ (.exit j) _ _ ⟨⟨F',O',_,g1.carry h2,ho⟩,g3⟩
    | ret =>
     obtain⟨⟨F',O',δ',g1,g2⟩,g3⟩:=hp;obtain⟨rs,_,_,g4⟩:=hY g2;simp [ck] at g4
    | _=>exact hp.elim
   | ret x y =>
    simp only [aiU] at h;subst h;cases e with
    | normal =>
     obtain⟨⟨F',O',δ',g1,g2⟩,g3⟩:=hp;simp [ck,cg] at g2
    | exit j =>
     obtain⟨⟨F',O',δ',g1,g2⟩,g3⟩:=hp;simp [ck,cg] at g2
    | ret =>
     obtain⟨⟨F',O',δ',g1,g2⟩,g3⟩:=hp;obtain⟨rs,g5,g6,g4⟩:=hY g2;simp only [ck,aiU,Out.ret.injEq] at g4;obtain⟨rfl,rfl⟩:=g4;exact hQ .ret _ _ ⟨⟨F',O',δ',g1,Co g5 g6 ho⟩,g3⟩
    | _=>exact hp.elim
theorem mH (hT:okT P c.T=true) (hS:∀f S,en c.S f=some S→au c.G P f S) (hm:P.follows .mixedOrders=true) {V:Nat→Value} {Z:List (Nat × List Nat)}:∀(b:Code) (bid:Nat),gX c Z bid b=true→∀(F:Nat→Prop) (O:Nat→Option (Nat × Nat)) (a:Act) (w:World) (δ:List D),
  Inv c B X w0 F0 F O a w δ→IoV c V a→∀(k:Out→Option Out) (r:Out),Ct c Z bid b δ k=some r→∀Q,(∀e a w,TK c B X w0 F0 V k r e a w→Q e a w)→b.wp P Q a w
 | .skip,bid,_,F,O,a,w,δ,hI,hV,k,r,hg,Q,hQ=>wp_skip (hQ _ _ _ ⟨⟨F,O,δ,hI,hg⟩,hV⟩)
 | .region id ops d,bid,hok,F,O,a,w,δ,hI,hV,k,r,hg,Q,hQ=>by
  simp only [gX] at hok;simp only [Ct] at hg;cases hH:en Z id with
  | none =>
   rw [hH] at hok hg;exact lk hT hS hm (.region id ops d) bid hok F O a w δ hI hV k r hg Q hQ
  | some fz =>
   rw [hH] at hok hg;simp only [aiT] at hok;simp only [Tv,dh,KL] at hg;obtain⟨F2,O2,hI2⟩:=hI.recast hok.1;refine lk (c:=rcx c fz) hT hS hm (.region id ops d) bid hok.2 F2 O2 a w _ hI2 (fun s hs=>hV s (by rw [←ac1 (fz:=fz)];exact hs)) (unK c fz k) r hg Q (fun e a w hp=>?_)
   cases e with
   | normal =>
    obtain⟨⟨F',O',δ',hI',hk'⟩,hV'⟩:=hp;exact hQ .normal _ _ ⟨⟨F',O',_,hI'.uncast,hk'⟩,fun s hs=>hV' s (by rw [ac1];exact hs)⟩
   | exit i=>obtain⟨⟨_,_,_,_,h⟩,_⟩:=hp;cases h
   | ret =>
    obtain⟨⟨_,_,_,_,h⟩,_⟩:=hp;obtain⟨rs,h1,h2,h3⟩:=hY h;cases h3
   | _=>exact hp.elim
 | .seq x y,bid,hok,F,O,a,w,δ,hI,hV,k,r,hg,Q,hQ=>by
  simp only [gX,aiT] at hok;refine wp_seq (mH hT hS hm x bid hok.1 F O a w δ hI hV _ r hg _ (fun e a' w' hp=>?_))
  cases e with
  | normal =>
   obtain⟨⟨F',O',δ',hI',hk'⟩,hV'⟩:=hp;exact mH hT hS hm y bid hok.2 F' O' a' w' δ' hI' hV' k r hk' Q hQ
  | exit id=>exact hQ _ _ _ hp
  | ret=>exact hQ _ _ _ hp
  | _=>exact hp.elim
 | .cond x t e,bid,hok,F,O,a,w,δ,hI,hV,k,r,hg,Q,hQ=>by
  simp only [gX,aiT] at hok;obtain⟨⟨hlv,hok1⟩,hok2⟩:=hok;have hop:=hI.opd (cT.1 hlv);have key:ifD (opD δ x) (Ct c Z bid t δ k) (Ct c Z bid e δ k)=some r:=by
   simp only [Ct] at hg;cases x with
   | tmp s=>simpa only [opC,fH,opD] using hg
   | const v=>simpa only [opC,opD] using hg
   | func f=>simpa only [opC,opD] using hg
   | global g=>simp [opC] at hg
  unfold ifD at key;split at key
  ·rename_i hd
   rw [hd] at hop;exact wp_cond_true (bG hop).1 (mH hT hS hm t bid hok1 F O a w δ hI hV k r key Q hQ)
  ·rename_i hd
   rw [hd] at hop;exact wp_cond_false (bG hop).1 (mH hT hS hm e bid hok2 F O a w δ hI hV k r key Q hQ)
  ·cases key
 | .block id b,bid,hok,F,O,a,w,δ,hI,hV,k,r,hg,Q,hQ=>by
  simp only [gX] at hok;refine wp_block (mH hT hS hm b id hok F O a w δ hI hV _ r hg _ (fun e a' w' hp=>?_))
  cases e with
  | normal=>exact hQ .normal _ _ hp
  | exit i =>
   simp only [Exit.inBlock];have hp':kr c B X w0 F0 V (fun δ=>LL id (.ext i δ) k) r a' w':=hp;split
   ·rename_i hi
    refine hQ .normal _ _ (ji hp' fun δ F O _ h=>?_)
    simp only [LL] at h;rw [bd.2 (by simpa using hi)] at h;exact h
   ·rename_i hi
    refine hQ (.exit i) _ _ (ji hp' fun δ F O _ h=>?_)
    simp only [LL] at h;cases hb:aju i id
    ·rw [hb] at h;exact h
    ·exact absurd (by simpa using bd.1 hb) hi
  | ret=>exact hQ .ret _ _ hp
  | _=>exact hp.elim
 | .loop b,bid,hok,F,O,a,w,δ,hI,hV,k,r,hg,Q,hQ=>by
  simp only [gX,aiT] at hok;obtain⟨hok1,hok2⟩:=hok;simp only [Ct] at hg;cases hH:en c.H bid with
  | none=>rw [hH] at hg;cases hg
  | some hx =>
   obtain⟨hl,xl⟩:=hx;rw [hH] at hg hok2;simp only [aiT] at hok2;simp only [cg] at hg;obtain⟨o',h1,h2⟩:=ai1.1 hg;unfold ba at h1;split at h1
   case isFalse=>cases h1
   rename_i hex;refine wp_loop_rounds (ai8 hex) ?_
   refine Hi (hl:=hl) (xl:=xl) hok2.1 hok2.2 (fun F O a w δ hI hV k r hg Q hQ=>mH hT hS hm b bid hok1 F O a w δ hI hV k r hg Q hQ) hQ h2 _ F O a w δ hI hV h1
 | .exit id,bid,_,F,O,a,w,δ,hI,hV,k,r,hg,Q,hQ=>wp_exit (hQ _ _ _ ⟨⟨F,O,δ,hI,hg⟩,hV⟩)
 | .ret,bid,_,F,O,a,w,δ,hI,hV,k,r,hg,Q,hQ=>wp_ret (hQ _ _ _ ⟨⟨F,O,δ,hI,hg⟩,hV⟩)
 | .label _,_,hok,_,_,_,_,_,_,_,_,_,_,_,_=>by simp [gX] at hok
 | .goto _,_,hok,_,_,_,_,_,_,_,_,_,_,_,_=>by simp [gX] at hok
 | .scope _,_,hok,_,_,_,_,_,_,_,_,_,_,_,_=>by simp [gX] at hok
theorem aa1 (hT:okT P c.T=true) (hS:∀f S,en c.S f=some S→au c.G P f S) (hm:P.follows .mixedOrders=true) {Z:List (Nat × List Nat)} {f:FuncId} {fn:Func} (hf:P.funcs[f]?=some fn) {pm rm:List Kd} (hok:adS c Z fn pm rm=true) (hres:c.res=fn.results.toList)
  {ds rs us:List D} (hd:vM c Z fn ds=some (.ret rs us)) {args:Array Value} {w:World} {F:Nat→Prop} {ow:Nat→Option Nat} (hgl:gOk c.G w F) (ha:fB w F ow 0 pm ds args.toList) (hF:∀b,F b→b<w.heap.size∧ow b=none) (hO:∀b i,ow b=some i→b<w.heap.size) :
  Calls P f args w fun e w'=>∃v,e = .returned v∧∃F' R' vs,v=lA vs∧CallPost {pm:=pm,rm:=rm,f:=vM c Z fn} args rs us w F ow F' R' vs w':=by
 unfold adS at hok;simp only [aiT,decide_eq_true_eq] at hok;obtain⟨⟨⟨⟨⟨hcode,hlenK⟩,hpre⟩,hpm⟩,hokr⟩,hios⟩:=hok;rw [bd,pD] at hlenK;obtain⟨hpl,hpn⟩:=Ce hpre;obtain⟨hdl,hal,hargs⟩:=BQ pm ds args.toList 0 ha;have hasz:args.size=pm.length:=by simpa using hal
 unfold vM at hd;cases hb:fn.body with
 | none=>rw [hb] at hd;cases hd
 | some b =>
  rw [hb] at hd hcode;simp only at hd hcode;refine calls_of_wp hf hb ?_
  have hav:∀s,s<pm.length→av ({tmps:=args++aiX (fn.ntmps - args.size) undef,defers:=[]}:Act) s=args.toList.getD s undef:=fun s hs=>by
   have h1:s<args.size:=by omega
   simp only [av,ajd,aiZ,ajo];rw [ajf h1]
  have hinit:Inv c w.heap.size (fun b=>ow b≠none) w F F (fun b=>(ow b).map fun i=>(i,0)) {tmps:=args++aiX (fn.ntmps - args.size) undef,defers:=[]} w (vB fn.ntmps ds):=by
   refine⟨by simp;omega,by rw [vY,hlenK],rfl,fun s=>?_,fun b hb=>⟨(hF b hb).1,by simp [(hF b hb).2]⟩,fun b p hp=>?_,fun _ h=>h,fun _ h=>.inl h,ajm _,rfl,rfl,rfl,fun _ _ _=>rfl,hgl⟩
   ·unfold Gh
    rw [vO _ _ _ (by rw [hdl];omega)];by_cases hs:s<pm.length
    ·rw [hpn s hs,hav s hs]
     rcases hargs s hs with hbad | harg
     ·exact .inl hbad
     refine .inr ?_
     have hlv:∀lv,lv≠1→∀b,FB F 0 lv b→FB F w.heap.size lv b:=fun lv h1 b hb=>by
      match lv,h1 with
      | 0,_=>exact hb
      | _+2,_=>exact hb
     rcases xh hpm s hs with ⟨lv,hk,h1⟩ | ⟨z,lv,hk,h1⟩ | ⟨n,lv,hk,h1⟩
     ·rw [hk] at harg ⊢
      exact .inr (co (hlv lv h1) (fun _ _=>rfl) harg)
     ·rw [hk] at harg ⊢
      exact .inr (eH (hlv lv h1) (fun _ _=>rfl) (fun g _ hg=>⟨⟨by simp only [ai3] at hg;simp [hg],fun h=>by cases h⟩,rfl⟩) harg)
     ·rw [hk] at harg ⊢
      exact .inr (mz (hlv lv h1) (fun _ _=>rfl) (fun g _ hg=>⟨⟨by simp only [ai3] at hg;simp [hg],fun h=>by cases h⟩,rfl⟩) harg)
    ·refine .inl ?_
     rw [jk,aiZ,ajp (by omega)];rfl
   ·obtain⟨i,hi,rfl⟩:=ai6.1 hp
    exact⟨hO b i hi,.inr (by rw [hi];simp)⟩
  refine mH hT hS hm b 0 hcode F _ _ w _ hinit (V:=av {tmps:=args++aiX (fn.ntmps - args.size) undef,defers:=[]}) (fun _ _=>rfl) _ _ hd _ (fun e a' w' hp=>?_)
  have fin:kr c w.heap.size (fun b=>ow b≠none) w F (av {tmps:=args++aiX (fn.ntmps - args.size) undef,defers:=[]}) (fun δ=>VD c δ some) (.ret rs us) a' w'→a'.defers=[]∧∃v,(results fn a'.tmps).run P w' = .ok v w'∧∃v',ajy v = .returned v'∧∃F' R' vs,v'=lA vs∧CallPost {pm:=pm,rm:=rm,f:=vM c Z fn} args rs us w F ow F' R' vs w':=by
   rintro⟨⟨F',O',δ',hI',hk⟩,hV'⟩;obtain⟨rs',h1,h2,h3⟩:=hY hk;simp only [aiU,Out.ret.injEq] at h3;obtain⟨rfl,rfl⟩:=h3;obtain⟨vs,g1,g2,g3,g4⟩:=Cc (P:=P) hT hI' c.res rm rs' hokr h1;refine⟨hI'.df,lA vs,?_,_,rfl,F',fun b=>if w.heap.size≤b then(match O' b with
    | some (t,0)=>Dd c.res t 0
    | _=>none) else none,vs,rfl,?_⟩
   ·have hrun:(fn.results.mapM (sZ a'.tmps)).run P w' = .ok vs.toArray w':=by
     rw [aji,←hres];simp [g1]
    have hrw:results fn a'.tmps=(do
      let vs ←fn.results.mapM (sZ a'.tmps)
      pure (if h:vs.size=1 then vs[0] else .tuple vs)):=by
     unfold results;congr 1
    rw [hrw];simp only [Sem.run_bind,hrun,ajv,Sem.run_pure];congr 1
    rcases vs with _ | ⟨y,_ | ⟨y',vs⟩⟩
    ·simp [lA]
    ·simp [lA]
    ·simp [lA]
   ·refine⟨hI'.os,hI'.tape,hI'.output,hI'.bb,fun b hb ho=>hI'.keep b hb (by simp [ho]),hI'.f0,fun b hb=>⟨hI'.fn b hb,(hI'.fl b hb).1,by simp only [(hI'.fl b hb).2];split<;>rfl⟩,fun b j hj=>?_,g2,g3,fun j=>?_,?_⟩
    ·split at hj
     case isFalse=>cases hj
     rename_i hB;refine⟨hB,?_⟩
     split at hj
     ·rename_i t he;exact(hI'.ol b _ he).1
     ·cases hj
    ·refine oZ (fun hk g hg=>?_) (g4 j)
     obtain⟨z,lv,hk⟩:=hk;obtain⟨e1,t,e2,e3⟩:=hg;rw [if_pos e1];simp only [e3];have:=(rR c.res rm hokr j t 0 z lv hk e2).1;simpa using this
    ·rw [hios]
     refine MU pm args.toList 0 hal (fun j hj hio=>?_)
     rw [ai3];have hkj:=hpn j hj;have hbj:nth δ' j ≠ .bad:=by
      refine h2 _ ?_
      rw [hios,sa];exact ajs (by simpa using BP pm 0 j hj hio)
     have havj:av a' j=args.toList.getD j undef:=(hV' j (by rw [hkj];exact hio)).trans (hav j hj);have hlv:∀lv,lv≠1→∀b,FB F' w.heap.size lv b→FB F' 0 lv b:=fun lv h1 b hb=>by
      match lv,h1 with
      | 0,_=>exact hb
      | _+2,_=>exact hb
     refine⟨hbj,.inr ?_⟩
     rcases xh hpm j hj with ⟨lv,hk,h1⟩ | ⟨z,lv,hk,h1⟩ | ⟨n,lv,hk,h1⟩
     ·rw [hk] at hio;cases hio
     ·have h5:=hI'.own (hkj.trans hk) hbj
      rw [havj] at h5;rw [hk];exact eH (hlv lv h1) (fun _ _=>rfl) (fun _ _ _=>⟨trivial,rfl⟩) h5
     ·have h5:=hI'.box (hkj.trans hk) hbj
      rw [havj] at h5;rw [hk];exact mz (hlv lv h1) (fun _ _=>rfl) (fun _ _ _=>⟨trivial,rfl⟩) h5
  cases e with
  | normal=>exact fin hp
  | exit i =>
   obtain⟨⟨_,_,_,_,h⟩,_⟩:=hp;cases h
  | ret =>
   refine fin (ji hp fun δ F O _ h=>?_)
   obtain⟨rs',h1,h2,h3⟩:=hY h;exact Co h1 h2 h3
  | _=>exact hp.elim
theorem rW (hT:okT P c.T=true) (hS:∀f S,en c.S f=some S→au c.G P f S) (hm:P.follows .mixedOrders=true) {Z:List (Nat × List Nat)} {f:FuncId} {fn:Func} (hf:P.funcs[f]?=some fn) (hname:(fn.name=="runtime.NumGoroutine")=false) {pm rm:List Kd} (hok:adS c Z fn pm rm=true) (hres:c.res=fn.results.toList) :
  au c.G P f {pm:=pm,rm:=rm,f:=vM c Z fn}:=by
 intro ds rs us hd args w F ow hgl ha hF hO o a next Q hn;have hbody:∃b,fn.body=some b:=by
  have hd':vM c Z fn ds=some (.ret rs us):=hd;unfold vM at hd';cases hb:fn.body with
  | none=>rw [hb] at hd';cases hd'
  | some b=>exact⟨b,rfl⟩
 obtain⟨b,hb⟩:=hbody;have hrun:(callFunc f args).run P w = .ok (.enter f args) w:=by
  have h1:¬fn.name="runtime.NumGoroutine":=by simpa using hname
  simp [callFunc,hf,h1,hb]
 rw [hrun,ai9];refine ajh (aa1 hT hS hm hf hok hres hd hgl ha hF hO) (fun e w' he=>?_)
 obtain⟨v,rfl,F',R',vs,h1,h2⟩:=he;exact hn v w' ⟨F',R',vs,h1,h2⟩
end
end Go.V

namespace Go.V
open Go.RowKit
def fj (f:(List D→Option Out)→Option Out) (k:List D→Option Out):Option Out:=f k
@[reducible] def yY (c:Cx) (J:List (Nat × List Nat)):Nat→Nat→Code→List D→(Out→Option Out)→Option Out
 | _,_,.skip,δ,k=>k (.nrm δ)
 | _,_,.region _ ops _,δ,k=>mF c ops.toList ops.toList δ fun δ'=>k (.nrm δ')
 | p,bid,.seq a b,δ,k=>match en J p with
  | none=>yY c J (ai5 2 p) bid a δ fun o=>ac3 o (fun δ'=>yY c J (ajD (ai5 2 p) 1) bid b δ' k) k
  | some hl=>fj (fun j=>yY c J (ai5 2 p) bid a δ fun o=>ac3 o (fun δ'=>uT δ' hl fun s=>j s) k) (fun s=>iX (lB c.K) hl s fun δ'=>yY c J (ajD (ai5 2 p) 1) bid b δ' k)
 | p,bid,.cond x t e,δ,k=>opC δ x fun q=>ifD q (yY c J (ai5 2 p) bid t δ k) (yY c J (ajD (ai5 2 p) 1) bid e δ k)
 | p,_,.block id b,δ,k=>yY c J (ai5 2 p) id b δ fun o=>LL id o k
 | p,bid,.loop b,δ,k=>match en c.H bid with
  | none=>none
  | some (hl,xl) =>
   uT δ hl fun s=>(ba (fun s=>iX (lB c.K) hl s fun δ=>yY c J (ai5 2 p) bid b δ (ck hl xl)) s).bind fun o =>
    bV o (fun i s=>iX (lB c.K) xl s fun δ=>k (.ext i δ)) (fun a b=>k (.ret a b))
 | _,_,.exit id,δ,k=>k (.ext id δ)
 | _,_,.ret,δ,k=>sg c δ c.res fun rs=>uT δ c.ios fun us=>usK us (k (.ret rs us))
 | _,_,_,_,_=>none
@[reducible] def Ej (c:Cx) (J:List (Nat × List Nat)) (fn:Func) (ds:List D):Option Out :=
 match fn.body with
 | none=>none
 | some b=>yY c J 1 0 b (vB fn.ntmps ds) fun o=>match o with
  | .nrm δ=>sg c δ c.res fun rs=>uT δ c.ios fun us=>usK us (some (.ret rs us))
  | .ext _ _=>none
  | .ret rs us=>some (.ret rs us)
def okJ (c:Cx) (J:List (Nat × List Nat)):Bool:=J.all fun p=>nq c.K p.2
theorem ace {c:Cx}:∀{J:List (Nat × List Nat)} {p:Nat} {hl:List Nat},okJ c J=true→en J p=some hl→nq c.K hl=true
 | [],_,_,_,h=>by cases h
 | (q,l)::J,p,hl,hJ,h=>by
  unfold okJ at hJ;rw [List.all_cons,aiT] at hJ;simp only [en] at h;split at h
  ·cases h
   exact hJ.1
  ·exact ace (J:=J) hJ.2 h
section
variable {P:Program} {c:Cx} {B:Nat} {X:Nat→Prop} {w0:World} {F0 F:Nat→Prop} {O:Nat→Option (Nat × Nat)} {a:Act} {w:World} {δ:List D}
theorem Iy {V:Nat→Value} {J:List (Nat × List Nat)} {p:Nat} {b:Code} {bid:Nat} {hl xl:List Nat} (h1:nq c.K hl=true) (h2:nq c.K xl=true)
  (ih:∀(F:Nat→Prop) (O:Nat→Option (Nat × Nat)) (a:Act) (w:World) (δ:List D),Inv c B X w0 F0 F O a w δ→IoV c V a→∀(k:Out→Option Out) (r:Out),yY c J p bid b δ k=some r→∀Q,(∀e a w,TK c B X w0 F0 V k r e a w→Q e a w)→b.wp P Q a w)
  {k:Out→Option Out} {r:Out} {Q:Exit→Act→World→Prop} (hQ:∀e a w,TK c B X w0 F0 V k r e a w→Q e a w) {o:Out}
  (ho:bV o (fun i s=>iX (lB c.K) xl s fun δ=>k (.ext i δ)) (fun x y=>k (.ret x y))=some r):∀(n:Nat) (F:Nat→Prop) (O:Nat→Option (Nat × Nat)) (a:Act) (w:World) (δ:List D),Inv c B X w0 F0 F O a w δ→IoV c V a →
  iter (fun s=>iX (lB c.K) hl s fun δ=>yY c J p bid b δ (ck hl xl)) n (aB δ hl)=some o→Code.rounds P b Q n a w
 | 0,_,_,_,_,_,_,_,h=>by cases h
 | n+1,F,O,a,w,δ,hI,hV,h=>by
  simp only [iter,mM] at h;rw [rounds_succ];have hI':=hI.carry h1;cases hb:yY c J p bid b (carry (lB c.K) hl δ) (ck hl xl) with
  | none=>rw [hb] at h;cases h
  | some ob =>
   rw [hb] at h;refine ih F O a w _ hI' hV _ ob hb _ (fun e a' w' hp=>?_)
   cases ob with
   | nrm s' =>
    simp only at h;cases e with
    | normal =>
     obtain⟨⟨F',O',δ',g1,g2⟩,g3⟩:=hp;simp only [ck,cg,aiU,Out.nrm.injEq] at g2;rw [←g2] at h;exact Iy h1 h2 ih hQ ho n F' O' a' w' δ' g1 g3 h
    | exit i =>
     obtain⟨⟨F',O',δ',g1,g2⟩,g3⟩:=hp;simp [ck,cg] at g2
    | ret =>
     obtain⟨⟨F',O',δ',g1,g2⟩,g3⟩:=hp;obtain⟨rs,_,_,g4⟩:=hY g2;simp [ck] at g4
    | _=>exact hp.elim
   | ext i l =>
    simp only [aiU] at h;subst h;cases e with
    | normal =>
     obtain⟨⟨F',O',δ',g1,g2⟩,g3⟩:=hp;simp [ck,cg] at g2
    | exit j =>
     obtain⟨⟨F',O',δ',g1,g2⟩,g3⟩:=hp;simp only [ck,cg,aiU,Out.ext.injEq] at g2;obtain⟨rfl,rfl⟩:=g2;simp only [bV,mM] at ho;exact hQ (.exit j) _ _ ⟨⟨F',O',_,g1.carry h2,ho⟩,g3⟩
    | ret =>
     obtain⟨⟨F',O',δ',g1,g2⟩,g3⟩:=hp;obtain⟨rs,_,_,g4⟩:=hY g2;simp [ck] at g4
    | _=>exact hp.elim
   | ret x y =>
    simp only [aiU] at h;subst h;cases e with
    | normal =>
     obtain⟨⟨F',O',δ',g1,g2⟩,g3⟩:=hp;simp [ck,cg] at g2
    | exit j =>
     obtain⟨⟨F',O',δ',g1,g2⟩,g3⟩:=hp;simp [ck,cg] at g2
    | ret =>
     obtain⟨⟨F',O',δ',g1,g2⟩,g3⟩:=hp;obtain⟨rs,g5,g6,g4⟩:=hY g2;simp only [ck,aiU,Out.ret.injEq] at g4;obtain⟨rfl,rfl⟩:=g4;exact hQ .ret _ _ ⟨⟨F',O',δ',g1,Co g5 g6 ho⟩,g3⟩
    | _=>exact hp.elim
theorem iT (hT:okT P c.T=true) (hS:∀f S,en c.S f=some S→au c.G P f S) (hm:P.follows .mixedOrders=true) {V:Nat→Value} {J:List (Nat × List Nat)} (hJ:okJ c J=true):∀(b:Code) (p bid:Nat),eR c bid b=true→∀(F:Nat→Prop) (O:Nat→Option (Nat × Nat)) (a:Act) (w:World) (δ:List D),
  Inv c B X w0 F0 F O a w δ→IoV c V a→∀(k:Out→Option Out) (r:Out),yY c J p bid b δ k=some r→∀Q,(∀e a w,TK c B X w0 F0 V k r e a w→Q e a w)→b.wp P Q a w
 | .skip,p,bid,_,F,O,a,w,δ,hI,hV,k,r,hg,Q,hQ=>wp_skip (hQ _ _ _ ⟨⟨F,O,δ,hI,hg⟩,hV⟩)
 | .region id ops d,p,bid,hok,F,O,a,w,δ,hI,hV,k,r,hg,Q,hQ=>by
  simp only [eR,aiT,ai7] at hok;have hq:∀a w,kr c B X w0 F0 V (fun δ=>k (.nrm δ)) r a w→Q .normal a w:=fun a w h=>hQ _ _ _ h
  cases d
  ·exact wp_region_list (Gf hT hS hq ops.toList hok.1 F O a w δ hI hV hg)
  ·exact SO hT hS (by simpa using hok.2) hm hq hok.1 hI hV hg id
 | .seq x y,p,bid,hok,F,O,a,w,δ,hI,hV,k,r,hg,Q,hQ=>by
  simp only [eR,aiT] at hok;simp only [yY] at hg;cases hH:en J p with
  | none =>
   rw [hH] at hg;refine wp_seq (iT hT hS hm hJ x _ bid hok.1 F O a w δ hI hV _ r hg _ (fun e a' w' hp=>?_))
   cases e with
   | normal =>
    obtain⟨⟨F',O',δ',hI',hk'⟩,hV'⟩:=hp;exact iT hT hS hm hJ y _ bid hok.2 F' O' a' w' δ' hI' hV' k r hk' Q hQ
   | exit id=>exact hQ _ _ _ hp
   | ret=>exact hQ _ _ _ hp
   | _=>exact hp.elim
  | some hl =>
   rw [hH] at hg;simp only [fj] at hg;have hlive:=ace hJ hH;refine wp_seq (iT hT hS hm hJ x _ bid hok.1 F O a w δ hI hV _ r hg _ (fun e a' w' hp=>?_))
   cases e with
   | normal =>
    obtain⟨⟨F',O',δ',hI',hk'⟩,hV'⟩:=hp;simp only [ac3,cg,mM] at hk';exact iT hT hS hm hJ y _ bid hok.2 F' O' a' w' _ (hI'.carry hlive) hV' k r hk' Q hQ
   | exit id=>exact hQ _ _ _ hp
   | ret=>exact hQ _ _ _ hp
   | _=>exact hp.elim
 | .cond x t e,p,bid,hok,F,O,a,w,δ,hI,hV,k,r,hg,Q,hQ=>by
  simp only [eR,aiT] at hok;obtain⟨⟨hlv,hok1⟩,hok2⟩:=hok;have hop:=hI.opd (cT.1 hlv);have key:ifD (opD δ x) (yY c J (ai5 2 p) bid t δ k) (yY c J (ajD (ai5 2 p) 1) bid e δ k)=some r:=by
   simp only [yY] at hg;cases x with
   | tmp s=>simpa only [opC,fH,opD] using hg
   | const v=>simpa only [opC,opD] using hg
   | func f=>simpa only [opC,opD] using hg
   | global g=>simp [opC] at hg
  unfold ifD at key;split at key
  ·rename_i hd
   rw [hd] at hop;exact wp_cond_true (bG hop).1 (iT hT hS hm hJ t _ bid hok1 F O a w δ hI hV k r key Q hQ)
  ·rename_i hd
   rw [hd] at hop;exact wp_cond_false (bG hop).1 (iT hT hS hm hJ e _ bid hok2 F O a w δ hI hV k r key Q hQ)
  ·cases key
 | .block id b,p,bid,hok,F,O,a,w,δ,hI,hV,k,r,hg,Q,hQ=>by
  simp only [eR] at hok;refine wp_block (iT hT hS hm hJ b _ id hok F O a w δ hI hV _ r hg _ (fun e a' w' hp=>?_))
  cases e with
  | normal=>exact hQ .normal _ _ hp
  | exit i =>
   simp only [Exit.inBlock];have hp':kr c B X w0 F0 V (fun δ=>LL id (.ext i δ) k) r a' w':=hp;split
   ·rename_i hi
    refine hQ .normal _ _ (ji hp' fun δ F O _ h=>?_)
    simp only [LL] at h;rw [bd.2 (by simpa using hi)] at h;exact h
   ·rename_i hi
    refine hQ (.exit i) _ _ (ji hp' fun δ F O _ h=>?_)
    simp only [LL] at h;cases hb:aju i id
    ·rw [hb] at h;exact h
    ·exact absurd (by simpa using bd.1 hb) hi
  | ret=>exact hQ .ret _ _ hp
  | _=>exact hp.elim
 | .loop b,p,bid,hok,F,O,a,w,δ,hI,hV,k,r,hg,Q,hQ=>by
  simp only [eR,aiT] at hok;obtain⟨hok1,hok2⟩:=hok;simp only [yY] at hg;cases hH:en c.H bid with
  | none=>rw [hH] at hg;cases hg
  | some hx =>
   obtain⟨hl,xl⟩:=hx;rw [hH] at hg hok2;simp only [aiT] at hok2;simp only [cg] at hg;obtain⟨o',h1,h2⟩:=ai1.1 hg;unfold ba at h1;split at h1
   case isFalse=>cases h1
   rename_i hex;refine wp_loop_rounds (ai8 hex) ?_
   refine Iy (hl:=hl) (xl:=xl) hok2.1 hok2.2 (fun F O a w δ hI hV k r hg Q hQ=>iT hT hS hm hJ b _ bid hok1 F O a w δ hI hV k r hg Q hQ) hQ h2 _ F O a w δ hI hV h1
 | .exit id,p,bid,_,F,O,a,w,δ,hI,hV,k,r,hg,Q,hQ=>wp_exit (hQ _ _ _ ⟨⟨F,O,δ,hI,hg⟩,hV⟩)
 | .ret,p,bid,_,F,O,a,w,δ,hI,hV,k,r,hg,Q,hQ=>wp_ret (hQ _ _ _ ⟨⟨F,O,δ,hI,hg⟩,hV⟩)
 | .label _,_,_,hok,_,_,_,_,_,_,_,_,_,_,_,_=>by simp [eR] at hok
 | .goto _,_,_,hok,_,_,_,_,_,_,_,_,_,_,_,_=>by simp [eR] at hok
 | .scope _,_,_,hok,_,_,_,_,_,_,_,_,_,_,_,_=>by simp [eR] at hok
theorem aaP (hT:okT P c.T=true) (hS:∀f S,en c.S f=some S→au c.G P f S) (hm:P.follows .mixedOrders=true) {J:List (Nat × List Nat)} (hJ:okJ c J=true) {f:FuncId} {fn:Func} (hf:P.funcs[f]?=some fn) {pm rm:List Kd} (hok:Yv c fn pm rm=true) (hres:c.res=fn.results.toList)
  {ds rs us:List D} (hd:Ej c J fn ds=some (.ret rs us)) {args:Array Value} {w:World} {F:Nat→Prop} {ow:Nat→Option Nat} (hgl:gOk c.G w F) (ha:fB w F ow 0 pm ds args.toList) (hF:∀b,F b→b<w.heap.size∧ow b=none) (hO:∀b i,ow b=some i→b<w.heap.size) :
  Calls P f args w fun e w'=>∃v,e = .returned v∧∃F' R vs,v=lA vs∧CallPost {pm:=pm,rm:=rm,f:=Ej c J fn} args rs us w F ow F' R vs w':=by
 unfold Yv at hok;simp only [aiT,decide_eq_true_eq] at hok;obtain⟨⟨⟨⟨⟨hcode,hlenK⟩,hpre⟩,hpm⟩,hokr⟩,hios⟩:=hok;rw [bd,pD] at hlenK;obtain⟨hpl,hpn⟩:=Ce hpre;obtain⟨hdl,hal,hargs⟩:=BQ pm ds args.toList 0 ha;have hasz:args.size=pm.length:=by simpa using hal
 unfold Ej at hd;cases hb:fn.body with
 | none=>rw [hb] at hd;cases hd
 | some b =>
  rw [hb] at hd hcode;simp only at hd hcode;refine calls_of_wp hf hb ?_
  have hav:∀s,s<pm.length→av ({tmps:=args++aiX (fn.ntmps - args.size) undef,defers:=[]}:Act) s=args.toList.getD s undef:=fun s hs=>by
   have h1:s<args.size:=by omega
   simp only [av,ajd,aiZ,ajo];rw [ajf h1]
  have hinit:Inv c w.heap.size (fun b=>ow b≠none) w F F (fun b=>(ow b).map fun i=>(i,0)) {tmps:=args++aiX (fn.ntmps - args.size) undef,defers:=[]} w (vB fn.ntmps ds):=by
   refine⟨by simp;omega,by rw [vY,hlenK],rfl,fun s=>?_,fun b hb=>⟨(hF b hb).1,by simp [(hF b hb).2]⟩,fun b p hp=>?_,fun _ h=>h,fun _ h=>.inl h,ajm _,rfl,rfl,rfl,fun _ _ _=>rfl,hgl⟩
   ·unfold Gh
    rw [vO _ _ _ (by rw [hdl];omega)];by_cases hs:s<pm.length
    ·rw [hpn s hs,hav s hs]
     rcases hargs s hs with hbad | harg
     ·exact .inl hbad
     refine .inr ?_
     have hlv:∀lv,lv≠1→∀b,FB F 0 lv b→FB F w.heap.size lv b:=fun lv h1 b hb=>by
      match lv,h1 with
      | 0,_=>exact hb
      | _+2,_=>exact hb
     rcases xh hpm s hs with ⟨lv,hk,h1⟩ | ⟨z,lv,hk,h1⟩ | ⟨n,lv,hk,h1⟩
     ·rw [hk] at harg ⊢
      exact .inr (co (hlv lv h1) (fun _ _=>rfl) harg)
     ·rw [hk] at harg ⊢
      exact .inr (eH (hlv lv h1) (fun _ _=>rfl) (fun g _ hg=>⟨⟨by simp only [ai3] at hg;simp [hg],fun h=>by cases h⟩,rfl⟩) harg)
     ·rw [hk] at harg ⊢
      exact .inr (mz (hlv lv h1) (fun _ _=>rfl) (fun g _ hg=>⟨⟨by simp only [ai3] at hg;simp [hg],fun h=>by cases h⟩,rfl⟩) harg)
    ·refine .inl ?_
     rw [jk,aiZ,ajp (by omega)];rfl
   ·obtain⟨i,hi,rfl⟩:=ai6.1 hp
    exact⟨hO b i hi,.inr (by rw [hi];simp)⟩
  refine iT hT hS hm hJ b 1 0 hcode F _ _ w _ hinit (V:=av {tmps:=args++aiX (fn.ntmps - args.size) undef,defers:=[]}) (fun _ _=>rfl) _ _ hd _ (fun e a' w' hp=>?_)
  have fin:kr c w.heap.size (fun b=>ow b≠none) w F (av {tmps:=args++aiX (fn.ntmps - args.size) undef,defers:=[]}) (fun δ=>VD c δ some) (.ret rs us) a' w'→a'.defers=[]∧∃v,(results fn a'.tmps).run P w' = .ok v w'∧∃v',ajy v = .returned v'∧∃F' R vs,v'=lA vs∧CallPost {pm:=pm,rm:=rm,f:=Ej c J fn} args rs us w F ow F' R vs w':=by
   rintro⟨⟨F',O',δ',hI',hk⟩,hV'⟩;obtain⟨rs',h1,h2,h3⟩:=hY hk;simp only [aiU,Out.ret.injEq] at h3;obtain⟨rfl,rfl⟩:=h3;obtain⟨vs,g1,g2,g3,g4⟩:=Cc (P:=P) hT hI' c.res rm rs' hokr h1;refine⟨hI'.df,lA vs,?_,_,rfl,F',fun b=>if w.heap.size≤b then(match O' b with
    | some (t,0)=>Dd c.res t 0
    | _=>none) else none,vs,rfl,?_⟩
   ·have hrun:(fn.results.mapM (sZ a'.tmps)).run P w' = .ok vs.toArray w':=by
     rw [aji,←hres];simp [g1]
    have hrw:results fn a'.tmps=(do
      let vs ←fn.results.mapM (sZ a'.tmps)
      pure (if h:vs.size=1 then vs[0] else .tuple vs)):=by
     unfold results;congr 1
    rw [hrw];simp only [Sem.run_bind,hrun,ajv,Sem.run_pure];congr 1
    rcases vs with _ | ⟨y,_ | ⟨y',vs⟩⟩
    ·simp [lA]
    ·simp [lA]
    ·simp [lA]
   ·refine⟨hI'.os,hI'.tape,hI'.output,hI'.bb,fun b hb ho=>hI'.keep b hb (by simp [ho]),hI'.f0,fun b hb=>⟨hI'.fn b hb,(hI'.fl b hb).1,by simp only [(hI'.fl b hb).2];split<;>rfl⟩,fun b j hj=>?_,g2,g3,fun j=>?_,?_⟩
    ·split at hj
     case isFalse=>cases hj
     rename_i hB;refine⟨hB,?_⟩
     split at hj
     ·rename_i t he;exact(hI'.ol b _ he).1
     ·cases hj
    ·refine oZ (fun hk g hg=>?_) (g4 j)
     obtain⟨z,lv,hk⟩:=hk;obtain⟨e1,t,e2,e3⟩:=hg;rw [if_pos e1];simp only [e3];have:=(rR c.res rm hokr j t 0 z lv hk e2).1;simpa using this
    ·rw [hios]
     refine MU pm args.toList 0 hal (fun j hj hio=>?_)
     rw [ai3];have hkj:=hpn j hj;have hbj:nth δ' j ≠ .bad:=by
      refine h2 _ ?_
      rw [hios,sa];exact ajs (by simpa using BP pm 0 j hj hio)
     have havj:av a' j=args.toList.getD j undef:=(hV' j (by rw [hkj];exact hio)).trans (hav j hj);have hlv:∀lv,lv≠1→∀b,FB F' w.heap.size lv b→FB F' 0 lv b:=fun lv h1 b hb=>by
      match lv,h1 with
      | 0,_=>exact hb
      | _+2,_=>exact hb
     refine⟨hbj,.inr ?_⟩
     rcases xh hpm j hj with ⟨lv,hk,h1⟩ | ⟨z,lv,hk,h1⟩ | ⟨n,lv,hk,h1⟩
     ·rw [hk] at hio;cases hio
     ·have h5:=hI'.own (hkj.trans hk) hbj
      rw [havj] at h5;rw [hk];exact eH (hlv lv h1) (fun _ _=>rfl) (fun _ _ _=>⟨trivial,rfl⟩) h5
     ·have h5:=hI'.box (hkj.trans hk) hbj
      rw [havj] at h5;rw [hk];exact mz (hlv lv h1) (fun _ _=>rfl) (fun _ _ _=>⟨trivial,rfl⟩) h5
  cases e with
  | normal=>exact fin hp
  | exit i =>
   obtain⟨⟨_,_,_,_,h⟩,_⟩:=hp;cases h
  | ret =>
   refine fin (ji hp fun δ F O _ h=>?_)
   obtain⟨rs',h1,h2,h3⟩:=hY h;exact Co h1 h2 h3
  | _=>exact hp.elim
theorem Kb (hT:okT P c.T=true) (hS:∀f S,en c.S f=some S→au c.G P f S) (hm:P.follows .mixedOrders=true) {J:List (Nat × List Nat)} (hJ:okJ c J=true) {f:FuncId} {fn:Func} (hf:P.funcs[f]?=some fn) (hname:(fn.name=="runtime.NumGoroutine")=false) {pm rm:List Kd} (hok:Yv c fn pm rm=true) (hres:c.res=fn.results.toList) :
  au c.G P f {pm:=pm,rm:=rm,f:=Ej c J fn}:=by
 intro ds rs us hd args w F ow hgl ha hF hO o a next Q hn;have hbody:∃b,fn.body=some b:=by
  have hd':Ej c J fn ds=some (.ret rs us):=hd;unfold Ej at hd';cases hb:fn.body with
  | none=>rw [hb] at hd';cases hd'
  | some b=>exact⟨b,rfl⟩
 obtain⟨b,hb⟩:=hbody;have hrun:(callFunc f args).run P w = .ok (.enter f args) w:=by
  have h1:¬fn.name="runtime.NumGoroutine":=by simpa using hname
  simp [callFunc,hf,h1,hb]
 rw [hrun,ai9];refine ajh (aaP hT hS hm hJ hf hok hres hd hgl ha hF hO) (fun e w' he=>?_)
 obtain⟨v,rfl,F',R,vs,h1,h2⟩:=he;exact hn v w' ⟨F',R,vs,h1,h2⟩
end
theorem ada {f:(List D→Option Out)→Option Out} {k:List D→Option Out} {r:Option Out} (p:List D→Prop) (hk:∀s,p s→k s=r) (hf:∀j:List D→Option Out,(∀s,p s→j s=r)→f j=r):fj f k=r:=hf k hk
end Go.V

end
