/-
  'laws.FnExactCountReplies' holds: whatever it is given, it returns true, and what it was given reads as it did. Its row lists variables of the library; the card ties them to the program's text.
-/
import Derived.Test.YtjafgdefcggjcaaGreatDoorRows
import Derived.Test.YtjafgdefcggjcaaGreatDoorTie
import Derived.Test.YtjafgdefcggjcaaGreatDoorCards
import Derived.Test.YtjafgdefcggjcaaGreatDoorM11
namespace Go.Proofs.YtjafgdefcggjcaaGreatDoor
open Go Go.V Go.RowKit Go.WideShapes Go.ChangeShapes Go.ChangeAt
theorem law (ds:List D) (h:Hv [.str] ds):dT ds=some (.ret [B true] []):=by
 obtain⟨x,rfl,h1⟩:=Hg h
 obtain⟨a,rfl,_⟩:=MJ h1
 exact Jq a
noncomputable def nw (os:Os):World :=
 {World.doorLaid Tryz.prog 200 os with heap:=(World.doorLaid Tryz.prog 200 os).heap.modify 3 fun
   | .cells _ t frozen=>.cells (Go.Pinned.utf8FirstZ.map fun n:Nat=>Value.int .u8 (n:Int)).toArray t frozen
   | o=>o}
theorem nr (os:Os) (args:Array Value):laidMet Tryz.prog Rows.fnExactCountRepliesRow.laid ((nw os).forCall (fun _ _=>0) ⟨#[],args,[]⟩).memory :=
 laidMet_of_run' 8 (by kernel_rfl) (by kernel_rfl)
theorem Iw (os:Os) {H:Type} (enc:TypeId × Value→H):∃places,DataW.whole enc Tryz.prog ((nw os).forCall (fun _ _=>0) ⟨#[],#[.string ⟨#[]⟩],[]⟩).memory Tryz.f5.params.toList Rows.fnExactCountRepliesSpec.vars false (#[.string ⟨#[]⟩]:Array Value).toList 8=some ([.lit (.string [])],[],places) :=
 ⟨[],by kernel_rfl⟩
set_option maxRecDepth 100000 in
theorem lifted (os:Os) (started:os.Started) (H:Type) (enc:TypeId × Value→H) (F:Stop.Interp) :
  ReturnsInHanded {} Tryz.checked os 5 .any ((OpenSpec.ofChange Rows.fnExactCountRepliesSpec).preRow enc Tryz.prog Tryz.f5 Rows.fnExactCountRepliesRow.domain false Rows.fnExactCountRepliesRow.laid) (((OpenSpec.ofChange Rows.fnExactCountRepliesSpec).at F).post enc Tryz.prog Tryz.f5 false true false false):=by
 obtain⟨places,hx⟩:=Iw os enc
 refine returnsInHanded_of_row (C:=Tryz.checked) (s:=OpenSpec.ofChange Rows.fnExactCountRepliesSpec) own started (by kernel_rfl) Tryz.func5
  (witness_row_atRef (enc:=enc) (C:=Tryz.checked) false (nw os) #[.string ⟨#[]⟩] rfl (by kernel_rfl) (by kernel_rfl) (by kernel_rfl)
   (OpenSpec.preRow_of_cond 8 hx (by kernel_rfl) (fun k hk=>by cases hk) (by kernel_rfl) (nr os _))) ?_
 intro W base args ds gs before hval hW _ _ _ hL hsh _
 rw [MakeChecks.laidMetH_plain _ _ _ (by kernel_rfl)] at hL
 exact zY (s:=Rows.fnExactCountRepliesSpec) rE Tryz.func5 (by kernel_rfl) (by kernel_rfl) [.str] HY (by kernel_rfl) (by kernel_rfl) rfl rfl (by kernel_rfl) law rfl
  (fun l hl=>by
   match l,hl with
   | [_],_=>rfl) hval hW (Pf hsh (Np hL.tail.tail) (Wl hL.tail.tail.tail.tail.tail) (Wi hL.tail.tail.tail.tail))
theorem Tm:(Rows.fnExactCountRepliesRow.wf (OpenSpec.ofChange (OpenSpec.ofChange Rows.fnExactCountRepliesSpec).bare))=true:=by kernel_rfl
theorem UL:(laidOutB Tryz.pinned.checked.prog)=true:=by kernel_rfl
theorem TN:(mapsRowed Tryz.pinned.checked.prog)=true:=by kernel_rfl
theorem Tl:(Tryz.f5.params.all (Tryz.pinned.checked.prog.readableRec ·))=true:=by kernel_rfl
theorem Ti:(namedTie Tryz.pinned.checked.prog Rows.fnExactCountRepliesRow.named (OpenSpec.ofChange Rows.fnExactCountRepliesSpec).bare.vars)=true:=by kernel_rfl
theorem Vm:((Rows.fnExactCountRepliesRow.stops==[]))=true:=by kernel_rfl
theorem Ug:((Tryz.pinned.checked.prog.stops==[]))=true:=by kernel_rfl
theorem Vb:((Rows.fnExactCountRepliesRow.knobs==[]))=true:=by kernel_rfl
theorem Tj:((Tryz.pinned.checked.prog.stopKnobs==[]))=true:=by kernel_rfl
theorem Hd:((Rows.fnExactCountRepliesRow.inPlace==Tryz.pinned.checked.prog.inPlace 5))=true:=by kernel_rfl
theorem Gd:((Rows.fnExactCountRepliesRow.unfollowed==Tryz.pinned.checked.prog.unfollowed 5))=true:=by kernel_rfl
theorem Fq:((Rows.fnExactCountRepliesRow.recurses==Tryz.pinned.checked.prog.recurses 5))=true:=by kernel_rfl
theorem FU:((Rows.fnExactCountRepliesRow.named==Tryz.pinned.checked.prog.varsNamed 5))=true:=by kernel_rfl
theorem Hl:((Rows.fnExactCountRepliesRow.maps==(Tryz.f5.params.toList++(OpenSpec.ofChange Rows.fnExactCountRepliesSpec).bare.plain.varTypes Tryz.pinned.checked.prog).any (Tryz.pinned.checked.prog.mapsRec ·)))=true:=by kernel_rfl
theorem GE:((Rows.fnExactCountRepliesRow.ifaces==(Tryz.f5.params.toList++(OpenSpec.ofChange Rows.fnExactCountRepliesSpec).bare.plain.varTypes Tryz.pinned.checked.prog).any (Tryz.pinned.checked.prog.ifacesRec ·)))=true:=by kernel_rfl
theorem Gr:((Rows.fnExactCountRepliesRow.mapsOut==Tryz.pinned.checked.prog.mapsAmong Tryz.f5.resultTypes.toList))=true:=by kernel_rfl
theorem Fg:((Rows.fnExactCountRepliesRow.loops==(Tryz.f5.params.toList++(OpenSpec.ofChange Rows.fnExactCountRepliesSpec).bare.plain.varTypes Tryz.pinned.checked.prog).any (Tryz.pinned.checked.prog.loopsFrom ·)))=true:=by kernel_rfl
theorem wo:((Rows.fnExactCountRepliesRow.wideKeys==(Tryz.f5.params.toList++(OpenSpec.ofChange Rows.fnExactCountRepliesSpec).bare.plain.varTypes Tryz.pinned.checked.prog++Tryz.f5.resultTypes.toList).any (Tryz.pinned.checked.prog.wideKeysFrom ·)))=true:=by kernel_rfl
theorem Ha:((OpenSpec.ofChange Rows.fnExactCountRepliesSpec).bare.vars.all (Tryz.pinned.checked.prog.varReadable ·))=true:=by kernel_rfl
theorem HW:(Tryz.f5.resultTypes.all (fun t=>Tryz.pinned.checked.prog.readableRec t&&decide (t<Tryz.pinned.checked.prog.types.size)))=true:=by kernel_rfl
theorem HL:((Rows.fnExactCountRepliesRow.ifacesOut==Tryz.f5.resultTypes.toList.any (Tryz.pinned.checked.prog.ifacesRec ·)))=true:=by kernel_rfl
theorem Fu:((Rows.fnExactCountRepliesRow.loopsOut==Tryz.f5.resultTypes.toList.any (Tryz.pinned.checked.prog.loopsFrom ·)))=true:=by kernel_rfl
theorem GM:((Rows.fnExactCountRepliesRow.plainKeys==Tryz.pinned.checked.prog.plainKeys))=true:=by kernel_rfl
theorem GA:(Rows.fnExactCountRepliesRow.shortTexts.isNone)=true:=by kernel_rfl
theorem wQ:(Tryz.pinned.checked.prog.stopsHeard)=true:=by kernel_rfl
theorem Fh:(Tryz.pinned.checked.prog.mayEnter)=true:=by kernel_rfl
theorem wa:((Rows.fnExactCountRepliesRow.lifted==Tryz.pinned.checked.prog.liftsFinal))=true:=by kernel_rfl
theorem wq:((Tryz.pinned.checked.prog.make==some Rows.fnExactCountRepliesRow.make))=true:=by kernel_rfl
theorem Hj:((Rows.fnExactCountRepliesRow.kinds==(if Rows.fnExactCountRepliesRow.domain.isEmpty then [] else Tryz.f5.params.toList.map fun t=>match Tryz.pinned.checked.prog.underlying t with | some (.int k)=>some k | _=>none)))=true:=by kernel_rfl
theorem Hi:((Rows.fnExactCountRepliesRow.pinned==Rows.fnExactCountRepliesRow.pinnedBy))=true:=by kernel_rfl
theorem Ig:((Rows.fnExactCountRepliesRow.veiled==(Tryz.f5.params.toList++(OpenSpec.ofChange Rows.fnExactCountRepliesSpec).bare.plain.varTypes Tryz.pinned.checked.prog++Tryz.f5.resultTypes.toList).any (Tryz.pinned.checked.prog.veiledRec ·)))=true:=by kernel_rfl
theorem Gv:(Rows.fnExactCountRepliesRow.veiledFits Tryz.pinned.checked.prog Tryz.f5.params.toList (Tryz.f5.params.toList++(OpenSpec.ofChange Rows.fnExactCountRepliesSpec).bare.plain.varTypes Tryz.pinned.checked.prog++Tryz.f5.resultTypes.toList))=true:=by kernel_rfl
set_option maxRecDepth 100000 in
theorem wN:joinedFacts Tryz.pinned.checked.prog 5 Tryz.f5 (OpenSpec.ofChange Rows.fnExactCountRepliesSpec).bare Rows.fnExactCountRepliesRow=true :=
 @vS Tryz.pinned.checked.prog 5 Tryz.f5 (OpenSpec.ofChange Rows.fnExactCountRepliesSpec).bare Rows.fnExactCountRepliesRow Tm UL TN Tl Ti Vm Ug Vb Tj Hd Gd Fq FU Hl GE Gr Fg wo Ha HW HL Fu GM GA wQ Fh wa wq Hj Hi Ig Gv
theorem Vi:Rows.FnExactCountRepliesSaid :=
 OpenClaim.holds_of_cond 5 Tryz.f5 rfl rfl rfl rfl rfl rfl rfl ⟨rfl,rfl,rfl,rfl,rfl⟩ rfl rfl rfl rfl rfl (by kernel_rfl) Tryz.func5 wN
  (of_decide_eq_true (by kernel_rfl)) (by unfold Func.isWrapper;first | (rw [if_pos (by decide +kernel)];kernel_rfl) | (rw [if_neg (by decide +kernel)];exact⟨rfl,rfl⟩))
  (fun os started H enc _ F=>by rw [OpenClaim.pre_eq_preRow];exact lifted os started H enc F)
theorem plain (f:FuncId) (fn:Func) (hf:Tryz.pinned.checked.prog.funcNamed "loop.example/g01054/laws.FnExactCountReplies"=some f) (hfn:Tryz.pinned.checked.prog.funcs[f]?=some fn) :
  true=Tryz.pinned.checked.prog.looks []∧∀(j:Nat) t,fn.params[j]?=some t→Tryz.pinned.checked.prog.wantsStandIn t=false:=by
 obtain rfl:f=5:=Option.some.inj ((show Tryz.prog.funcNamed "loop.example/g01054/laws.FnExactCountReplies"=some 5 by kernel_rfl).symm.trans hf) |>.symm
 obtain rfl:fn=Tryz.f5:=(Option.some.inj (Tryz.func5.symm.trans hfn)).symm
 refine⟨by kernel_rfl,fun j t ht=>?_⟩
 rw [Tryz.params5] at ht
 have hm:=Array.mem_of_getElem? ht
 have all:∀t∈(#[9]:Array Nat),Tryz.prog.wantsStandIn t=false:=by
  have:(#[9]:Array Nat).toList.all (fun t=>!Tryz.prog.wantsStandIn t)=true:=by kernel_rfl
  intro t ht
  have h:=List.all_eq_true.1 this t (by simpa using ht)
  simpa using h
 exact all t hm
theorem holds:Rows.FnExactCountRepliesCardSaid :=
 Claim7.holds_tied_plain_at .later [] _ _ _ _ Vi (fun _ h=>by cases h) (by kernel_rfl) (fun _ h=>by cases h) fnExactCountReplies_row_tie rfl ⟨rfl,rfl⟩ (by kernel_rfl) rfl plain (by kernel_rfl)
end Go.Proofs.YtjafgdefcggjcaaGreatDoor

