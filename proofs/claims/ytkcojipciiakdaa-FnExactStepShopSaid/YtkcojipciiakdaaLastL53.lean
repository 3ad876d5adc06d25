/-
  'laws.FnExactStepShop' holds: whatever it is given, it returns true, and what it was given reads as it did.
-/
import Derived.Test.YtkcojipciiakdaaRows
import Derived.Test.YtkcojipciiakdaaM10
set_option maxRecDepth 100000
namespace Go.Proofs.Ytkcojipciiakdaa
open Go Go.V Go.RowKit Go.WideShapes Go.ChangeShapes
set_option maxRecDepth 100000
theorem Try.own:ownKnob Try.prog.godebug=none:=by kernel_rfl
theorem Try.laidOut:laidOutB Try.prog=true:=by kernel_rfl
abbrev FV:Sh:=.st (.cons .str (.cons (.int .i64) (.cons (.int .i64) (.cons (.int .i64) .nil))))
abbrev Bg:Sh:=.st (.cons (.int .i64) (.cons (.sl .str) (.cons .bool (.cons (.int .i64) .nil))))
abbrev An:Sh:=.st (.cons (.sl FV) (.cons (.sl Bg) (.cons (.int .i64) (.cons (.int .i64) .nil))))
theorem xk {α:Type} {e:Sh} {f:α→D} {P:α→Prop} (hf:∀d,e.IsV d→∃a,d=f a∧P a) {l:List D} (h:(Sh.sl e).Is l):∃m:List α,l=[.arr e.size (m.map f)]∧m.length≤9223372036854775807∧∀a∈m,P a:=by
 obtain⟨ds,rfl,h1,h2⟩:=h
 have:∃m:List α,ds=m.map f∧∀a∈m,P a:=by
  clear h1
  induction ds with
  | nil=>exact⟨[],rfl,by simp⟩
  | cons d ds ih =>
   obtain⟨a,rfl,ha⟩:=hf d (h2 d (by simp))
   obtain⟨m,rfl,hm⟩:=ih (fun d hd=>h2 d (by simp [hd]))
   refine⟨a::m,rfl,fun b hb=>?_⟩
   rcases List.mem_cons.1 hb with rfl | hb
   ·exact ha
   ·exact hm b hb
 obtain⟨m,rfl,h3⟩:=this
 exact⟨m,rfl,by simpa [maxLen] using h1,h3⟩
theorem DO (y:D) (h:FV.IsV y):∃x:Bx,y=bx x∧x.1.size≤9223372036854775807:=by
 obtain⟨_,⟨_,_,rfl,⟨d,rfl,hd⟩,⟨_,_,rfl,⟨k,rfl,_⟩,⟨_,_,rfl,⟨g,rfl,_⟩,⟨_,_,rfl,⟨e,rfl,_⟩,rfl⟩⟩⟩⟩,rfl⟩:=h
 exact⟨(d,k,g,e),rfl,hd⟩
theorem Cv (y:D) (h:Sh.str.IsV y):∃x:ByteArray,y=T x∧x.size≤9223372036854775807:=by
 obtain⟨s,rfl,hs⟩:=Gb h
 exact⟨s,rfl,hs⟩
theorem Ak (y:D) (h:Bg.IsV y):∃x:Fm,y=fm x∧x.2.1.length≤9223372036854775807∧∀c∈x.2.1,c.size≤9223372036854775807:=by
 obtain⟨_,⟨_,_,rfl,⟨d,rfl,hd⟩,⟨_,_,rfl,hk,⟨_,_,rfl,⟨g,rfl⟩,⟨_,_,rfl,⟨e,rfl,_⟩,rfl⟩⟩⟩⟩,rfl⟩:=h
 obtain⟨m,rfl,h1,h2⟩:=xk Cv hk
 exact⟨(d,m,g,e),rfl,h1,h2⟩
theorem BZ {y:D} (h:An.IsV y):∃s:Sp,y=sp s∧Cg s:=by
 obtain⟨_,⟨_,_,rfl,hd,⟨_,_,rfl,hk,⟨_,_,rfl,⟨g,rfl,_⟩,⟨_,_,rfl,⟨e,rfl,_⟩,rfl⟩⟩⟩⟩,rfl⟩:=h
 obtain⟨m,rfl,h1,h2⟩:=xk DO hd
 obtain⟨n,rfl,h3,h4⟩:=xk Ak hk
 exact⟨(m,n,g,e),rfl,⟨h1,h2⟩,h3,h4⟩
abbrev zY:Sh:=.st (.cons (.int .i64) (.cons (.int .i64) (.cons .str (.cons (.int .i64) .nil))))
theorem Cp (y:D) (h:zY.IsV y):∃x:Stp,y=stp x∧x.2.2.1.size≤9223372036854775807:=by
 obtain⟨_,⟨_,_,rfl,⟨k,rfl,_⟩,⟨_,_,rfl,⟨g,rfl,_⟩,⟨_,_,rfl,⟨d,rfl,hd⟩,⟨_,_,rfl,⟨e,rfl,_⟩,rfl⟩⟩⟩⟩,rfl⟩:=h
 exact⟨(k,g,d,e),rfl,hd⟩
theorem law (ds:List D) (h:zf [An,zY] ds):sZ ds=some (.ret [B true] []):=by
 obtain⟨x,y,rfl,h1,h2⟩:=FL h
 obtain⟨s,rfl,hs⟩:=BZ h1
 obtain⟨x,rfl,hx⟩:=Cp y h2
 exact Cr hs hx
theorem Gu (os:Os) (started:os.Started) (H:Type) (enc:TypeId × Value→H) :
  ReturnsInHanded {} Try.checked os 5 .any (Rows.fnExactStepShopSpec.pre6 enc Try.prog Try.f5 Rows.fnExactStepShopRow.domain false) (Rows.fnExactStepShopSpec.post enc Try.prog Try.f5 false true false false):=by
 refine returnsInHanded_of_change (C:=Try.checked) Try.own started (by kernel_rfl) Try.func5
  (ChangeSpec.witness6 (enc:=enc) (C:=Try.checked) false ⟨#[],#[.agg #[.slice none 0 0,.slice none 0 0,.int .i64 0,.int .i64 0],.agg #[.int .i64 0,.int .i64 0,.string ⟨#[]⟩,.int .i64 0]],[]⟩ 8 (by kernel_rfl) (by kernel_rfl) (by kernel_rfl) (by kernel_rfl)) ?_
 intro W base args ds gs before hval hW _ _
 exact Ek kA Try.func5 (by kernel_rfl) (by kernel_rfl) [An,zY] Try.laidOut (by kernel_rfl) (by kernel_rfl) rfl rfl (by kernel_rfl) law rfl
  (fun l hl=>by
   match l,hl with
   | [_,_],_=>rfl) hval hW eP
theorem holds:Rows.FnExactStepShopSaid :=
 OpenClaim.holds_of_wide 5 Try.f5 rfl rfl rfl rfl rfl rfl rfl ⟨rfl,rfl,rfl,rfl,rfl⟩ rfl rfl rfl rfl rfl (by kernel_rfl) Try.func5 (by kernel_rfl)
  (of_decide_eq_true (by kernel_rfl)) (by unfold Func.isWrapper;first | (rw [if_pos (by decide +kernel)];kernel_rfl) | (rw [if_neg (by decide +kernel)];exact⟨rfl,rfl⟩))
  (fun os started H enc _=>Gu os started H enc)
end Go.Proofs.Ytkcojipciiakdaa

