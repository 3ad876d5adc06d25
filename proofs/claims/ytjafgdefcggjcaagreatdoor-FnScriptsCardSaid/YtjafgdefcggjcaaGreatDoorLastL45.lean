/-
  'laws.FnScripts' holds: whatever it is given, it returns true, and what it was given reads as it did. Its row lists variables of the library; the card ties them to the program's text.
-/
import Derived.Test.YtjafgdefcggjcaaGreatDoorRows
import Derived.Test.YtjafgdefcggjcaaGreatDoorTie
import Derived.Test.YtjafgdefcggjcaaGreatDoorCards
import Derived.Test.YtjafgdefcggjcaaGreatDoorM12
set_option maxRecDepth 100000
namespace Go.Proofs.YtjafgdefcggjcaaGreatDoor
open Go Go.V Go.RowKit Go.WideShapes Go.ChangeShapes Go.ChangeAt
abbrev GB:Sh:=.sl (.int .u8)
theorem VP {y:D} (h:GB.IsV y):∃l:List Int,y=rV l∧∀n∈l,0≤n∧n≤255:=by
 obtain⟨ds,rfl,-,h2⟩:=ahn h
 have:∃l:List Int,ds=l.map U∧∀n∈l,0≤n∧n≤255:=by
  clear h
  induction ds with
  | nil=>exact⟨[],rfl,by simp⟩
  | cons d ds ih =>
   obtain⟨n,rfl,k1,k2⟩:=ahh (h2 d (by simp))
   obtain⟨l,rfl,k3⟩:=ih (fun e he=>h2 e (by simp [he]))
   refine⟨n::l,rfl,fun m hm=>?_⟩
   rcases List.mem_cons.1 hm with rfl | hm
   ·exact⟨k1,k2⟩
   ·exact k3 m hm
 obtain⟨l,rfl,h3⟩:=this
 exact⟨l,rfl,h3⟩
theorem law (ds:List D) (h:OJ [GB,GB] ds):kR ds=some (.ret [B true] []):=by
 obtain⟨x,y,rfl,h1,h2⟩:=aeK h
 obtain⟨a,rfl,ha⟩:=VP h1
 obtain⟨b,rfl,_⟩:=VP h2
 exact WO a b ha
noncomputable def OP (os:Os):World :=
 {World.doorLaid Tryz.prog 200 os with heap:=(World.doorLaid Tryz.prog 200 os).heap.modify 3 fun
   | .cells _ t frozen=>.cells (Go.Pinned.utf8FirstZ.map fun n:Nat=>Value.int .u8 (n:Int)).toArray t frozen
   | o=>o}
theorem Ox (os:Os) (args:Array Value):laidMet Tryz.prog Rows.fnScriptsRow.laid ((OP os).forCall (fun _ _=>0) ⟨#[],args,[]⟩).memory :=
 laidMet_of_run' 8 (by kernel_rfl) (by kernel_rfl)
theorem adL (os:Os) {H:Type} (enc:TypeId × Value→H):∃places,DataW.whole enc Tryz.prog ((OP os).forCall (fun _ _=>0) ⟨#[],#[.slice none 0 0,.slice none 0 0],[]⟩).memory Tryz.f9.params.toList Rows.fnScriptsSpec.vars false (#[.slice none 0 0,.slice none 0 0]:Array Value).toList 8=some ([.nil,.nil],[],places) :=
 ⟨[],by kernel_rfl⟩
theorem lifted (os:Os) (started:os.Started) (H:Type) (enc:TypeId × Value→H) (F:Stop.Interp) :
  ReturnsInHanded {} Tryz.checked os 9 .any ((OpenSpec.ofChange Rows.fnScriptsSpec).preRow enc Tryz.prog Tryz.f9 Rows.fnScriptsRow.domain false Rows.fnScriptsRow.laid) (((OpenSpec.ofChange Rows.fnScriptsSpec).at F).post enc Tryz.prog Tryz.f9 false true false false):=by
 obtain⟨places,hx⟩:=adL os enc
 refine returnsInHanded_of_row (C:=Tryz.checked) (s:=OpenSpec.ofChange Rows.fnScriptsSpec) own started (by kernel_rfl) Tryz.func9
  (witness_row_atRef (enc:=enc) (C:=Tryz.checked) false (OP os) #[.slice none 0 0,.slice none 0 0] rfl (by kernel_rfl) (by kernel_rfl) (by kernel_rfl)
   (OpenSpec.preRow_of_cond 8 hx (by kernel_rfl) (fun k hk=>by cases hk) (by kernel_rfl) (Ox os _))) ?_
 intro W base args ds gs before hval hW _ _ _ hL hsh _
 rw [MakeChecks.laidMetH_plain _ _ _ (by kernel_rfl)] at hL
 exact Vn (s:=Rows.fnScriptsSpec) IL Tryz.func9 (by kernel_rfl) (by kernel_rfl) [GB,GB] Zh (by kernel_rfl) (by kernel_rfl) rfl rfl (by kernel_rfl) law rfl
  (fun l hl=>by
   match l,hl with
   | [_,_],_=>rfl) hval hW (acp hsh (ab6 hL.tail.tail) (afW hL.tail.tail.tail.tail.tail) (afN hL.tail.tail.tail.tail))
theorem agU:(Rows.fnScriptsRow.wf (OpenSpec.ofChange (OpenSpec.ofChange Rows.fnScriptsSpec).bare))=true:=by kernel_rfl
theorem agn:(laidOutB Tryz.pinned.checked.prog)=true:=by kernel_rfl
theorem agW:(mapsRowed Tryz.pinned.checked.prog)=true:=by kernel_rfl
theorem aga:(Tryz.f9.params.all (Tryz.pinned.checked.prog.readableRec ·))=true:=by kernel_rfl
theorem agl:(namedTie Tryz.pinned.checked.prog Rows.fnScriptsRow.named (OpenSpec.ofChange Rows.fnScriptsSpec).bare.vars)=true:=by kernel_rfl
theorem agK:((Rows.fnScriptsRow.stops==[]))=true:=by kernel_rfl
theorem agp:((Tryz.pinned.checked.prog.stops==[]))=true:=by kernel_rfl
theorem agR:((Rows.fnScriptsRow.knobs==[]))=true:=by kernel_rfl
theorem agG:((Tryz.pinned.checked.prog.stopKnobs==[]))=true:=by kernel_rfl
theorem ack:((Rows.fnScriptsRow.inPlace==Tryz.pinned.checked.prog.inPlace 9))=true:=by kernel_rfl
theorem ad4:((Rows.fnScriptsRow.unfollowed==Tryz.pinned.checked.prog.unfollowed 9))=true:=by kernel_rfl
theorem acR:((Rows.fnScriptsRow.recurses==Tryz.pinned.checked.prog.recurses 9))=true:=by kernel_rfl
theorem adG:((Rows.fnScriptsRow.named==Tryz.pinned.checked.prog.varsNamed 9))=true:=by kernel_rfl
theorem acP:((Rows.fnScriptsRow.maps==(Tryz.f9.params.toList++(OpenSpec.ofChange Rows.fnScriptsSpec).bare.plain.varTypes Tryz.pinned.checked.prog).any (Tryz.pinned.checked.prog.mapsRec ·)))=true:=by kernel_rfl
theorem adZ:((Rows.fnScriptsRow.ifaces==(Tryz.f9.params.toList++(OpenSpec.ofChange Rows.fnScriptsSpec).bare.plain.varTypes Tryz.pinned.checked.prog).any (Tryz.pinned.checked.prog.ifacesRec ·)))=true:=by kernel_rfl
theorem abu:((Rows.fnScriptsRow.mapsOut==Tryz.pinned.checked.prog.mapsAmong Tryz.f9.resultTypes.toList))=true:=by kernel_rfl
theorem aea:((Rows.fnScriptsRow.loops==(Tryz.f9.params.toList++(OpenSpec.ofChange Rows.fnScriptsSpec).bare.plain.varTypes Tryz.pinned.checked.prog).any (Tryz.pinned.checked.prog.loopsFrom ·)))=true:=by kernel_rfl
theorem YO:((Rows.fnScriptsRow.wideKeys==(Tryz.f9.params.toList++(OpenSpec.ofChange Rows.fnScriptsSpec).bare.plain.varTypes Tryz.pinned.checked.prog++Tryz.f9.resultTypes.toList).any (Tryz.pinned.checked.prog.wideKeysFrom ·)))=true:=by kernel_rfl
theorem acZ:((OpenSpec.ofChange Rows.fnScriptsSpec).bare.vars.all (Tryz.pinned.checked.prog.varReadable ·))=true:=by kernel_rfl
theorem aco:(Tryz.f9.resultTypes.all (fun t=>Tryz.pinned.checked.prog.readableRec t&&decide (t<Tryz.pinned.checked.prog.types.size)))=true:=by kernel_rfl
theorem ady:((Rows.fnScriptsRow.ifacesOut==Tryz.f9.resultTypes.toList.any (Tryz.pinned.checked.prog.ifacesRec ·)))=true:=by kernel_rfl
theorem aby:((Rows.fnScriptsRow.loopsOut==Tryz.f9.resultTypes.toList.any (Tryz.pinned.checked.prog.loopsFrom ·)))=true:=by kernel_rfl
theorem acv:((Rows.fnScriptsRow.plainKeys==Tryz.pinned.checked.prog.plainKeys))=true:=by kernel_rfl
theorem ac0:(Rows.fnScriptsRow.shortTexts.isNone)=true:=by kernel_rfl
theorem Zb:(Tryz.pinned.checked.prog.stopsHeard)=true:=by kernel_rfl
theorem acf:(Tryz.pinned.checked.prog.mayEnter)=true:=by kernel_rfl
theorem YF:((Rows.fnScriptsRow.lifted==Tryz.pinned.checked.prog.liftsFinal))=true:=by kernel_rfl
theorem YT:((Tryz.pinned.checked.prog.make==some Rows.fnScriptsRow.make))=true:=by kernel_rfl
theorem ac5:((Rows.fnScriptsRow.kinds==(if Rows.fnScriptsRow.domain.isEmpty then [] else Tryz.f9.params.toList.map fun t=>match Tryz.pinned.checked.prog.underlying t with | some (.int k)=>some k | _=>none)))=true:=by kernel_rfl
theorem acX:((Rows.fnScriptsRow.pinned==Rows.fnScriptsRow.pinnedBy))=true:=by kernel_rfl
theorem adr:((Rows.fnScriptsRow.veiled==(Tryz.f9.params.toList++(OpenSpec.ofChange Rows.fnScriptsSpec).bare.plain.varTypes Tryz.pinned.checked.prog++Tryz.f9.resultTypes.toList).any (Tryz.pinned.checked.prog.veiledRec ·)))=true:=by kernel_rfl
theorem ach:(Rows.fnScriptsRow.veiledFits Tryz.pinned.checked.prog Tryz.f9.params.toList (Tryz.f9.params.toList++(OpenSpec.ofChange Rows.fnScriptsSpec).bare.plain.varTypes Tryz.pinned.checked.prog++Tryz.f9.resultTypes.toList))=true:=by kernel_rfl
theorem Yj:joinedFacts Tryz.pinned.checked.prog 9 Tryz.f9 (OpenSpec.ofChange Rows.fnScriptsSpec).bare Rows.fnScriptsRow=true :=
 @Sa Tryz.pinned.checked.prog 9 Tryz.f9 (OpenSpec.ofChange Rows.fnScriptsSpec).bare Rows.fnScriptsRow agU agn agW aga agl agK agp agR agG ack ad4 acR adG acP adZ abu aea YO acZ aco ady aby acv ac0 Zb acf YF YT ac5 acX adr ach
theorem agZ:Rows.FnScriptsSaid :=
 OpenClaim.holds_of_cond 9 Tryz.f9 rfl rfl rfl rfl rfl rfl rfl ⟨rfl,rfl,rfl,rfl,rfl⟩ rfl rfl rfl rfl rfl (by kernel_rfl) Tryz.func9 Yj
  (of_decide_eq_true (by kernel_rfl)) (by unfold Func.isWrapper;first | (rw [if_pos (by decide +kernel)];kernel_rfl) | (rw [if_neg (by decide +kernel)];exact⟨rfl,rfl⟩))
  (fun os started H enc _ F=>by rw [OpenClaim.pre_eq_preRow];exact lifted os started H enc F)
theorem plain (f:FuncId) (fn:Func) (hf:Tryz.pinned.checked.prog.funcNamed "loop.example/g01054/laws.FnScripts"=some f) (hfn:Tryz.pinned.checked.prog.funcs[f]?=some fn) :
  true=Tryz.pinned.checked.prog.looks []∧∀(j:Nat) t,fn.params[j]?=some t→Tryz.pinned.checked.prog.wantsStandIn t=false:=by
 obtain rfl:f=9:=Option.some.inj ((show Tryz.prog.funcNamed "loop.example/g01054/laws.FnScripts"=some 9 by kernel_rfl).symm.trans hf) |>.symm
 obtain rfl:fn=Tryz.f9:=(Option.some.inj (Tryz.func9.symm.trans hfn)).symm
 refine⟨by kernel_rfl,fun j t ht=>?_⟩
 rw [Tryz.params9] at ht
 have hm:=Array.mem_of_getElem? ht
 have all:∀t∈(#[43,43]:Array Nat),Tryz.prog.wantsStandIn t=false:=by
  have:(#[43,43]:Array Nat).toList.all (fun t=>!Tryz.prog.wantsStandIn t)=true:=by kernel_rfl
  intro t ht
  have h:=List.all_eq_true.1 this t (by simpa using ht)
  simpa using h
 exact all t hm
theorem holds:Rows.FnScriptsCardSaid :=
 Claim7.holds_tied_plain_at .later [] _ _ _ _ agZ (fun _ h=>by cases h) (by kernel_rfl) (fun _ h=>by cases h) fnScripts_row_tie rfl ⟨rfl,rfl⟩ (by kernel_rfl) rfl plain (by kernel_rfl)
end Go.Proofs.YtjafgdefcggjcaaGreatDoor

