/-
  'laws.FnExactRunLines' holds: whatever it is given, it returns true, and what it was given reads as it did. Its row lists variables of the library; the card ties them to the program's text.
-/
import Derived.Test.YtjafgdefcggjcaaGreatDoorRows
import Derived.Test.YtjafgdefcggjcaaGreatDoorTie
import Derived.Test.YtjafgdefcggjcaaGreatDoorCards
import Derived.Test.YtjafgdefcggjcaaGreatDoorM12
set_option maxRecDepth 100000
namespace Go.Proofs.YtjafgdefcggjcaaGreatDoor
open Go Go.V Go.RowKit Go.WideShapes Go.ChangeShapes Go.ChangeAt
theorem law (ds:List D) (h:OJ [.str] ds):fE ds=some (.ret [B true] []):=by
 obtain⟨x,rfl,h1⟩:=ae4 h
 obtain⟨a,rfl,_⟩:=agc h1
 exact Ui a
noncomputable def OP (os:Os):World :=
 {World.doorLaid Tryz.prog 200 os with heap:=(World.doorLaid Tryz.prog 200 os).heap.modify 3 fun
   | .cells _ t frozen=>.cells (Go.Pinned.utf8FirstZ.map fun n:Nat=>Value.int .u8 (n:Int)).toArray t frozen
   | o=>o}
theorem Ox (os:Os) (args:Array Value):laidMet Tryz.prog Rows.fnExactRunLinesRow.laid ((OP os).forCall (fun _ _=>0) ⟨#[],args,[]⟩).memory :=
 laidMet_of_run' 8 (by kernel_rfl) (by kernel_rfl)
theorem adL (os:Os) {H:Type} (enc:TypeId × Value→H):∃places,DataW.whole enc Tryz.prog ((OP os).forCall (fun _ _=>0) ⟨#[],#[.string ⟨#[]⟩],[]⟩).memory Tryz.f4.params.toList Rows.fnExactRunLinesSpec.vars false (#[.string ⟨#[]⟩]:Array Value).toList 8=some ([.lit (.string [])],[],places) :=
 ⟨[],by kernel_rfl⟩
theorem lifted (os:Os) (started:os.Started) (H:Type) (enc:TypeId × Value→H) (F:Stop.Interp) :
  ReturnsInHanded {} Tryz.checked os 4 .any ((OpenSpec.ofChange Rows.fnExactRunLinesSpec).preRow enc Tryz.prog Tryz.f4 Rows.fnExactRunLinesRow.domain false Rows.fnExactRunLinesRow.laid) (((OpenSpec.ofChange Rows.fnExactRunLinesSpec).at F).post enc Tryz.prog Tryz.f4 false true false false):=by
 obtain⟨places,hx⟩:=adL os enc
 refine returnsInHanded_of_row (C:=Tryz.checked) (s:=OpenSpec.ofChange Rows.fnExactRunLinesSpec) own started (by kernel_rfl) Tryz.func4
  (witness_row_atRef (enc:=enc) (C:=Tryz.checked) false (OP os) #[.string ⟨#[]⟩] rfl (by kernel_rfl) (by kernel_rfl) (by kernel_rfl)
   (OpenSpec.preRow_of_cond 8 hx (by kernel_rfl) (fun k hk=>by cases hk) (by kernel_rfl) (Ox os _))) ?_
 intro W base args ds gs before hval hW _ _ _ hL hsh _
 rw [MakeChecks.laidMetH_plain _ _ _ (by kernel_rfl)] at hL
 exact Vn (s:=Rows.fnExactRunLinesSpec) wT Tryz.func4 (by kernel_rfl) (by kernel_rfl) [.str] Zh (by kernel_rfl) (by kernel_rfl) rfl rfl (by kernel_rfl) law rfl
  (fun l hl=>by
   match l,hl with
   | [_],_=>rfl) hval hW (acp hsh (ab6 hL.tail.tail) (afW hL.tail.tail.tail.tail.tail) (afN hL.tail.tail.tail.tail))
theorem agU:(Rows.fnExactRunLinesRow.wf (OpenSpec.ofChange (OpenSpec.ofChange Rows.fnExactRunLinesSpec).bare))=true:=by kernel_rfl
theorem agn:(laidOutB Tryz.pinned.checked.prog)=true:=by kernel_rfl
theorem agW:(mapsRowed Tryz.pinned.checked.prog)=true:=by kernel_rfl
theorem aga:(Tryz.f4.params.all (Tryz.pinned.checked.prog.readableRec ·))=true:=by kernel_rfl
theorem agl:(namedTie Tryz.pinned.checked.prog Rows.fnExactRunLinesRow.named (OpenSpec.ofChange Rows.fnExactRunLinesSpec).bare.vars)=true:=by kernel_rfl
theorem agK:((Rows.fnExactRunLinesRow.stops==[]))=true:=by kernel_rfl
theorem agp:((Tryz.pinned.checked.prog.stops==[]))=true:=by kernel_rfl
theorem agR:((Rows.fnExactRunLinesRow.knobs==[]))=true:=by kernel_rfl
theorem agG:((Tryz.pinned.checked.prog.stopKnobs==[]))=true:=by kernel_rfl
theorem ack:((Rows.fnExactRunLinesRow.inPlace==Tryz.pinned.checked.prog.inPlace 4))=true:=by kernel_rfl
theorem ad4:((Rows.fnExactRunLinesRow.unfollowed==Tryz.pinned.checked.prog.unfollowed 4))=true:=by kernel_rfl
theorem acR:((Rows.fnExactRunLinesRow.recurses==Tryz.pinned.checked.prog.recurses 4))=true:=by kernel_rfl
theorem adG:((Rows.fnExactRunLinesRow.named==Tryz.pinned.checked.prog.varsNamed 4))=true:=by kernel_rfl
theorem acP:((Rows.fnExactRunLinesRow.maps==(Tryz.f4.params.toList++(OpenSpec.ofChange Rows.fnExactRunLinesSpec).bare.plain.varTypes Tryz.pinned.checked.prog).any (Tryz.pinned.checked.prog.mapsRec ·)))=true:=by kernel_rfl
theorem adZ:((Rows.fnExactRunLinesRow.ifaces==(Tryz.f4.params.toList++(OpenSpec.ofChange Rows.fnExactRunLinesSpec).bare.plain.varTypes Tryz.pinned.checked.prog).any (Tryz.pinned.checked.prog.ifacesRec ·)))=true:=by kernel_rfl
theorem abu:((Rows.fnExactRunLinesRow.mapsOut==Tryz.pinned.checked.prog.mapsAmong Tryz.f4.resultTypes.toList))=true:=by kernel_rfl
theorem aea:((Rows.fnExactRunLinesRow.loops==(Tryz.f4.params.toList++(OpenSpec.ofChange Rows.fnExactRunLinesSpec).bare.plain.varTypes Tryz.pinned.checked.prog).any (Tryz.pinned.checked.prog.loopsFrom ·)))=true:=by kernel_rfl
theorem YO:((Rows.fnExactRunLinesRow.wideKeys==(Tryz.f4.params.toList++(OpenSpec.ofChange Rows.fnExactRunLinesSpec).bare.plain.varTypes Tryz.pinned.checked.prog++Tryz.f4.resultTypes.toList).any (Tryz.pinned.checked.prog.wideKeysFrom ·)))=true:=by kernel_rfl
theorem acZ:((OpenSpec.ofChange Rows.fnExactRunLinesSpec).bare.vars.all (Tryz.pinned.checked.prog.varReadable ·))=true:=by kernel_rfl
theorem aco:(Tryz.f4.resultTypes.all (fun t=>Tryz.pinned.checked.prog.readableRec t&&decide (t<Tryz.pinned.checked.prog.types.size)))=true:=by kernel_rfl
theorem ady:((Rows.fnExactRunLinesRow.ifacesOut==Tryz.f4.resultTypes.toList.any (Tryz.pinned.checked.prog.ifacesRec ·)))=true:=by kernel_rfl
theorem aby:((Rows.fnExactRunLinesRow.loopsOut==Tryz.f4.resultTypes.toList.any (Tryz.pinned.checked.prog.loopsFrom ·)))=true:=by kernel_rfl
theorem acv:((Rows.fnExactRunLinesRow.plainKeys==Tryz.pinned.checked.prog.plainKeys))=true:=by kernel_rfl
theorem ac0:(Rows.fnExactRunLinesRow.shortTexts.isNone)=true:=by kernel_rfl
theorem Zb:(Tryz.pinned.checked.prog.stopsHeard)=true:=by kernel_rfl
theorem acf:(Tryz.pinned.checked.prog.mayEnter)=true:=by kernel_rfl
theorem YF:((Rows.fnExactRunLinesRow.lifted==Tryz.pinned.checked.prog.liftsFinal))=true:=by kernel_rfl
theorem YT:((Tryz.pinned.checked.prog.make==some Rows.fnExactRunLinesRow.make))=true:=by kernel_rfl
theorem ac5:((Rows.fnExactRunLinesRow.kinds==(if Rows.fnExactRunLinesRow.domain.isEmpty then [] else Tryz.f4.params.toList.map fun t=>match Tryz.pinned.checked.prog.underlying t with | some (.int k)=>some k | _=>none)))=true:=by kernel_rfl
theorem acX:((Rows.fnExactRunLinesRow.pinned==Rows.fnExactRunLinesRow.pinnedBy))=true:=by kernel_rfl
theorem adr:((Rows.fnExactRunLinesRow.veiled==(Tryz.f4.params.toList++(OpenSpec.ofChange Rows.fnExactRunLinesSpec).bare.plain.varTypes Tryz.pinned.checked.prog++Tryz.f4.resultTypes.toList).any (Tryz.pinned.checked.prog.veiledRec ·)))=true:=by kernel_rfl
theorem ach:(Rows.fnExactRunLinesRow.veiledFits Tryz.pinned.checked.prog Tryz.f4.params.toList (Tryz.f4.params.toList++(OpenSpec.ofChange Rows.fnExactRunLinesSpec).bare.plain.varTypes Tryz.pinned.checked.prog++Tryz.f4.resultTypes.toList))=true:=by kernel_rfl
theorem Yj:joinedFacts Tryz.pinned.checked.prog 4 Tryz.f4 (OpenSpec.ofChange Rows.fnExactRunLinesSpec).bare Rows.fnExactRunLinesRow=true :=
 @Sa Tryz.pinned.checked.prog 4 Tryz.f4 (OpenSpec.ofChange Rows.fnExactRunLinesSpec).bare Rows.fnExactRunLinesRow agU agn agW aga agl agK agp agR agG ack ad4 acR adG acP adZ abu aea YO acZ aco ady aby acv ac0 Zb acf YF YT ac5 acX adr ach
theorem agZ:Rows.FnExactRunLinesSaid :=
 OpenClaim.holds_of_cond 4 Tryz.f4 rfl rfl rfl rfl rfl rfl rfl ⟨rfl,rfl,rfl,rfl,rfl⟩ rfl rfl rfl rfl rfl (by kernel_rfl) Tryz.func4 Yj
  (of_decide_eq_true (by kernel_rfl)) (by unfold Func.isWrapper;first | (rw [if_pos (by decide +kernel)];kernel_rfl) | (rw [if_neg (by decide +kernel)];exact⟨rfl,rfl⟩))
  (fun os started H enc _ F=>by rw [OpenClaim.pre_eq_preRow];exact lifted os started H enc F)
theorem plain (f:FuncId) (fn:Func) (hf:Tryz.pinned.checked.prog.funcNamed "loop.example/g01054/laws.FnExactRunLines"=some f) (hfn:Tryz.pinned.checked.prog.funcs[f]?=some fn) :
  true=Tryz.pinned.checked.prog.looks []∧∀(j:Nat) t,fn.params[j]?=some t→Tryz.pinned.checked.prog.wantsStandIn t=false:=by
 obtain rfl:f=4:=Option.some.inj ((show Tryz.prog.funcNamed "loop.example/g01054/laws.FnExactRunLines"=some 4 by kernel_rfl).symm.trans hf) |>.symm
 obtain rfl:fn=Tryz.f4:=(Option.some.inj (Tryz.func4.symm.trans hfn)).symm
 refine⟨by kernel_rfl,fun j t ht=>?_⟩
 rw [Tryz.params4] at ht
 have hm:=Array.mem_of_getElem? ht
 have all:∀t∈(#[9]:Array Nat),Tryz.prog.wantsStandIn t=false:=by
  have:(#[9]:Array Nat).toList.all (fun t=>!Tryz.prog.wantsStandIn t)=true:=by kernel_rfl
  intro t ht
  have h:=List.all_eq_true.1 this t (by simpa using ht)
  simpa using h
 exact all t hm
theorem holds:Rows.FnExactRunLinesCardSaid :=
 Claim7.holds_tied_plain_at .later [] _ _ _ _ agZ (fun _ h=>by cases h) (by kernel_rfl) (fun _ h=>by cases h) fnExactRunLines_row_tie rfl ⟨rfl,rfl⟩ (by kernel_rfl) rfl plain (by kernel_rfl)
end Go.Proofs.YtjafgdefcggjcaaGreatDoor

