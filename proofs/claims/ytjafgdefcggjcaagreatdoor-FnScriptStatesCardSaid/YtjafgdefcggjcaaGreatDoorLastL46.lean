/-
  'laws.FnScriptStates' holds: whatever it is given, it returns true, and what it was given reads as it did. Its row lists variables of the library; the card ties them to the program's text.
-/
import Derived.Test.YtjafgdefcggjcaaGreatDoorRows
import Derived.Test.YtjafgdefcggjcaaGreatDoorTie
import Derived.Test.YtjafgdefcggjcaaGreatDoorCards
import Derived.Test.YtjafgdefcggjcaaGreatDoorM12
set_option maxRecDepth 100000
namespace Go.Proofs.YtjafgdefcggjcaaGreatDoor
open Go Go.V Go.RowKit Go.WideShapes Go.ChangeShapes Go.ChangeAt
abbrev Ii:Sh:=.sl (.int .u8)
theorem Wk {y:D} (h:Ii.IsV y):∃l:List Int,y=jH l∧∀n∈l,0≤n∧n≤255:=by
 obtain⟨ds,rfl,-,h2⟩:=ahH h
 have:∃l:List Int,ds=l.map U∧∀n∈l,0≤n∧n≤255:=by
  clear h
  induction ds with
  | nil=>exact⟨[],rfl,by simp⟩
  | cons d ds ih =>
   obtain⟨n,rfl,k1,k2⟩:=agj (h2 d (by simp))
   obtain⟨l,rfl,k3⟩:=ih (fun e he=>h2 e (by simp [he]))
   refine⟨n::l,rfl,fun m hm=>?_⟩
   rcases List.mem_cons.1 hm with rfl | hm
   ·exact⟨k1,k2⟩
   ·exact k3 m hm
 obtain⟨l,rfl,h3⟩:=this
 exact⟨l,rfl,h3⟩
theorem law (ds:List D) (h:Vx [Ii,Ii] ds):gm ds=some (.ret [B true] []):=by
 obtain⟨x,y,rfl,h1,h2⟩:=afL h
 obtain⟨a,rfl,ha⟩:=Wk h1
 obtain⟨b,rfl,hb⟩:=Wk h2
 exact JR a b ha hb
noncomputable def ac7 (os:Os):World :=
 {World.doorLaid Tryz.prog 200 os with heap:=(World.doorLaid Tryz.prog 200 os).heap.modify 3 fun
   | .cells _ t frozen=>.cells (Go.Pinned.utf8FirstZ.map fun n:Nat=>Value.int .u8 (n:Int)).toArray t frozen
   | o=>o}
theorem adZ (os:Os) (args:Array Value):laidMet Tryz.prog Rows.fnScriptStatesRow.laid ((ac7 os).forCall (fun _ _=>0) ⟨#[],args,[]⟩).memory :=
 laidMet_of_run' 8 (by kernel_rfl) (by kernel_rfl)
theorem ahR (os:Os) {H:Type} (enc:TypeId × Value→H):∃places,DataW.whole enc Tryz.prog ((ac7 os).forCall (fun _ _=>0) ⟨#[],#[.slice none 0 0,.slice none 0 0],[]⟩).memory Tryz.f10.params.toList Rows.fnScriptStatesSpec.vars false (#[.slice none 0 0,.slice none 0 0]:Array Value).toList 8=some ([.nil,.nil],[],places) :=
 ⟨[],by kernel_rfl⟩
theorem lifted (os:Os) (started:os.Started) (H:Type) (enc:TypeId × Value→H) (F:Stop.Interp) :
  ReturnsInHanded {} Tryz.checked os 10 .any ((OpenSpec.ofChange Rows.fnScriptStatesSpec).preRow enc Tryz.prog Tryz.f10 Rows.fnScriptStatesRow.domain false Rows.fnScriptStatesRow.laid) (((OpenSpec.ofChange Rows.fnScriptStatesSpec).at F).post enc Tryz.prog Tryz.f10 false true false false):=by
 obtain⟨places,hx⟩:=ahR os enc
 refine returnsInHanded_of_row (C:=Tryz.checked) (s:=OpenSpec.ofChange Rows.fnScriptStatesSpec) own started (by kernel_rfl) Tryz.func10
  (witness_row_atRef (enc:=enc) (C:=Tryz.checked) false (ac7 os) #[.slice none 0 0,.slice none 0 0] rfl (by kernel_rfl) (by kernel_rfl) (by kernel_rfl)
   (OpenSpec.preRow_of_cond 8 hx (by kernel_rfl) (fun k hk=>by cases hk) (by kernel_rfl) (adZ os _))) ?_
 intro W base args ds gs before hval hW _ _ _ hL hsh _
 rw [MakeChecks.laidMetH_plain _ _ _ (by kernel_rfl)] at hL
 exact ad0 (s:=Rows.fnScriptStatesSpec) zy Tryz.func10 (by kernel_rfl) (by kernel_rfl) [Ii,Ii] aeW (by kernel_rfl) (by kernel_rfl) rfl rfl (by kernel_rfl) law rfl
  (fun l hl=>by
   match l,hl with
   | [_,_],_=>rfl) hval hW (agA hsh (ag5 hL.tail.tail) (ah9 hL.tail.tail.tail.tail.tail) (aie hL.tail.tail.tail.tail))
theorem aiC:(Rows.fnScriptStatesRow.wf (OpenSpec.ofChange (OpenSpec.ofChange Rows.fnScriptStatesSpec).bare))=true:=by kernel_rfl
theorem aiE:(laidOutB Tryz.pinned.checked.prog)=true:=by kernel_rfl
theorem aiJ:(mapsRowed Tryz.pinned.checked.prog)=true:=by kernel_rfl
theorem aix:(Tryz.f10.params.all (Tryz.pinned.checked.prog.readableRec ·))=true:=by kernel_rfl
theorem aiO:(namedTie Tryz.pinned.checked.prog Rows.fnScriptStatesRow.named (OpenSpec.ofChange Rows.fnScriptStatesSpec).bare.vars)=true:=by kernel_rfl
theorem aiN:((Rows.fnScriptStatesRow.stops==[]))=true:=by kernel_rfl
theorem aiD:((Tryz.pinned.checked.prog.stops==[]))=true:=by kernel_rfl
theorem aiA:((Rows.fnScriptStatesRow.knobs==[]))=true:=by kernel_rfl
theorem aiP:((Tryz.pinned.checked.prog.stopKnobs==[]))=true:=by kernel_rfl
theorem ah0:((Rows.fnScriptStatesRow.inPlace==Tryz.pinned.checked.prog.inPlace 10))=true:=by kernel_rfl
theorem ah6:((Rows.fnScriptStatesRow.unfollowed==Tryz.pinned.checked.prog.unfollowed 10))=true:=by kernel_rfl
theorem ahP:((Rows.fnScriptStatesRow.recurses==Tryz.pinned.checked.prog.recurses 10))=true:=by kernel_rfl
theorem ahA:((Rows.fnScriptStatesRow.named==Tryz.pinned.checked.prog.varsNamed 10))=true:=by kernel_rfl
theorem ah4:((Rows.fnScriptStatesRow.maps==(Tryz.f10.params.toList++(OpenSpec.ofChange Rows.fnScriptStatesSpec).bare.plain.varTypes Tryz.pinned.checked.prog).any (Tryz.pinned.checked.prog.mapsRec ·)))=true:=by kernel_rfl
theorem ahu:((Rows.fnScriptStatesRow.ifaces==(Tryz.f10.params.toList++(OpenSpec.ofChange Rows.fnScriptStatesSpec).bare.plain.varTypes Tryz.pinned.checked.prog).any (Tryz.pinned.checked.prog.ifacesRec ·)))=true:=by kernel_rfl
theorem ahZ:((Rows.fnScriptStatesRow.mapsOut==Tryz.pinned.checked.prog.mapsAmong Tryz.f10.resultTypes.toList))=true:=by kernel_rfl
theorem ahS:((Rows.fnScriptStatesRow.loops==(Tryz.f10.params.toList++(OpenSpec.ofChange Rows.fnScriptStatesSpec).bare.plain.varTypes Tryz.pinned.checked.prog).any (Tryz.pinned.checked.prog.loopsFrom ·)))=true:=by kernel_rfl
theorem agu:((Rows.fnScriptStatesRow.wideKeys==(Tryz.f10.params.toList++(OpenSpec.ofChange Rows.fnScriptStatesSpec).bare.plain.varTypes Tryz.pinned.checked.prog++Tryz.f10.resultTypes.toList).any (Tryz.pinned.checked.prog.wideKeysFrom ·)))=true:=by kernel_rfl
theorem aim:((OpenSpec.ofChange Rows.fnScriptStatesSpec).bare.vars.all (Tryz.pinned.checked.prog.varReadable ·))=true:=by kernel_rfl
theorem ahL:(Tryz.f10.resultTypes.all (fun t=>Tryz.pinned.checked.prog.readableRec t&&decide (t<Tryz.pinned.checked.prog.types.size)))=true:=by kernel_rfl
theorem ain:((Rows.fnScriptStatesRow.ifacesOut==Tryz.f10.resultTypes.toList.any (Tryz.pinned.checked.prog.ifacesRec ·)))=true:=by kernel_rfl
theorem ahO:((Rows.fnScriptStatesRow.loopsOut==Tryz.f10.resultTypes.toList.any (Tryz.pinned.checked.prog.loopsFrom ·)))=true:=by kernel_rfl
theorem aio:((Rows.fnScriptStatesRow.plainKeys==Tryz.pinned.checked.prog.plainKeys))=true:=by kernel_rfl
theorem ah1:(Rows.fnScriptStatesRow.shortTexts.isNone)=true:=by kernel_rfl
theorem ag0:(Tryz.pinned.checked.prog.stopsHeard)=true:=by kernel_rfl
theorem ahD:(Tryz.pinned.checked.prog.mayEnter)=true:=by kernel_rfl
theorem agk:((Rows.fnScriptStatesRow.lifted==Tryz.pinned.checked.prog.liftsFinal))=true:=by kernel_rfl
theorem agX:((Tryz.pinned.checked.prog.make==some Rows.fnScriptStatesRow.make))=true:=by kernel_rfl
theorem aif:((Rows.fnScriptStatesRow.kinds==(if Rows.fnScriptStatesRow.domain.isEmpty then [] else Tryz.f10.params.toList.map fun t=>match Tryz.pinned.checked.prog.underlying t with | some (.int k)=>some k | _=>none)))=true:=by kernel_rfl
theorem aib:((Rows.fnScriptStatesRow.pinned==Rows.fnScriptStatesRow.pinnedBy))=true:=by kernel_rfl
theorem ahx:((Rows.fnScriptStatesRow.veiled==(Tryz.f10.params.toList++(OpenSpec.ofChange Rows.fnScriptStatesSpec).bare.plain.varTypes Tryz.pinned.checked.prog++Tryz.f10.resultTypes.toList).any (Tryz.pinned.checked.prog.veiledRec ·)))=true:=by kernel_rfl
theorem ahz:(Rows.fnScriptStatesRow.veiledFits Tryz.pinned.checked.prog Tryz.f10.params.toList (Tryz.f10.params.toList++(OpenSpec.ofChange Rows.fnScriptStatesSpec).bare.plain.varTypes Tryz.pinned.checked.prog++Tryz.f10.resultTypes.toList))=true:=by kernel_rfl
theorem ahc:joinedFacts Tryz.pinned.checked.prog 10 Tryz.f10 (OpenSpec.ofChange Rows.fnScriptStatesSpec).bare Rows.fnScriptStatesRow=true :=
 @abl Tryz.pinned.checked.prog 10 Tryz.f10 (OpenSpec.ofChange Rows.fnScriptStatesSpec).bare Rows.fnScriptStatesRow aiC aiE aiJ aix aiO aiN aiD aiA aiP ah0 ah6 ahP ahA ah4 ahu ahZ ahS agu aim ahL ain ahO aio ah1 ag0 ahD agk agX aif aib ahx ahz
theorem aiB:Rows.FnScriptStatesSaid :=
 OpenClaim.holds_of_cond 10 Tryz.f10 rfl rfl rfl rfl rfl rfl rfl ⟨rfl,rfl,rfl,rfl,rfl⟩ rfl rfl rfl rfl rfl (by kernel_rfl) Tryz.func10 ahc
  (of_decide_eq_true (by kernel_rfl)) (by unfold Func.isWrapper;first | (rw [if_pos (by decide +kernel)];kernel_rfl) | (rw [if_neg (by decide +kernel)];exact⟨rfl,rfl⟩))
  (fun os started H enc _ F=>by rw [OpenClaim.pre_eq_preRow];exact lifted os started H enc F)
theorem plain (f:FuncId) (fn:Func) (hf:Tryz.pinned.checked.prog.funcNamed "loop.example/g01054/laws.FnScriptStates"=some f) (hfn:Tryz.pinned.checked.prog.funcs[f]?=some fn) :
  true=Tryz.pinned.checked.prog.looks []∧∀(j:Nat) t,fn.params[j]?=some t→Tryz.pinned.checked.prog.wantsStandIn t=false:=by
 obtain rfl:f=10:=Option.some.inj ((show Tryz.prog.funcNamed "loop.example/g01054/laws.FnScriptStates"=some 10 by kernel_rfl).symm.trans hf) |>.symm
 obtain rfl:fn=Tryz.f10:=(Option.some.inj (Tryz.func10.symm.trans hfn)).symm
 refine⟨by kernel_rfl,fun j t ht=>?_⟩
 rw [Tryz.params10] at ht
 have hm:=Array.mem_of_getElem? ht
 have all:∀t∈(#[43,43]:Array Nat),Tryz.prog.wantsStandIn t=false:=by
  have:(#[43,43]:Array Nat).toList.all (fun t=>!Tryz.prog.wantsStandIn t)=true:=by kernel_rfl
  intro t ht
  have h:=List.all_eq_true.1 this t (by simpa using ht)
  simpa using h
 exact all t hm
theorem holds:Rows.FnScriptStatesCardSaid :=
 Claim7.holds_tied_plain_at .later [] _ _ _ _ aiB (fun _ h=>by cases h) (by kernel_rfl) (fun _ h=>by cases h) fnScriptStates_row_tie rfl ⟨rfl,rfl⟩ (by kernel_rfl) rfl plain (by kernel_rfl)
end Go.Proofs.YtjafgdefcggjcaaGreatDoor

