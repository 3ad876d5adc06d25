/-
  'laws.FnExactRunShop' holds: whatever it is given, it returns true, and what it was given reads as it did.
-/
import Derived.Test.YtankikbbdfgkbaaRows
import Derived.Test.YtankikbbdfgkbaaM10
set_option maxRecDepth 100000
namespace Go.Proofs.Ytankikbbdfgkbaa
open Go Go.V Go.RowKit Go.WideShapes Go.ChangeShapes
theorem Try.own:ownKnob Try.prog.godebug=none:=by kernel_rfl
theorem Try.laidOut:laidOutB Try.prog=true:=by kernel_rfl
abbrev Hi:Sh:=.st (.cons .str (.cons (.int .i64) (.cons (.int .i64) (.cons (.int .i64) .nil))))
abbrev Cw:Sh:=.st (.cons (.int .i64) (.cons (.sl .str) (.cons .bool (.cons (.int .i64) .nil))))
abbrev BO:Sh:=.st (.cons (.sl Hi) (.cons (.sl Cw) (.cons (.int .i64) (.cons (.int .i64) .nil))))
theorem yj {α:Type} {e:Sh} {f:α→D} {P:α→Prop} (hf:∀d,e.IsV d→∃a,d=f a∧P a) {l:List D} (h:(Sh.sl e).Is l):∃m:List α,l=[.arr e.size (m.map f)]∧m.length≤9223372036854775807∧∀a∈m,P a:=by
 obtain⟨ds,rfl,h1,h2⟩:=h
 have:∃m:List α,ds=m.map f∧∀a∈m,P a:=by
  clear h1
  induction ds with
  | nil=>exact⟨[],rfl,by simp⟩
  | cons d ds ih =>
   obtain⟨a,rfl,ha⟩:=hf d (h2 d (by simp))
   obtain⟨m,rfl,hm⟩:=ih (fun d hd=>h2 d (by simp [hd]))
   refine⟨a::m,rfl,fun b hb=>?_⟩
   rcases List.mem_cons.1 hb with rfl | hb
   ·exact ha
   ·exact hm b hb
 obtain⟨m,rfl,h3⟩:=this
 exact⟨m,rfl,by simpa [maxLen] using h1,h3⟩
theorem Eu (y:D) (h:Hi.IsV y):∃x:Bx,y=bx x∧x.1.size≤9223372036854775807:=by
 obtain⟨_,⟨_,_,rfl,⟨d,rfl,hd⟩,⟨_,_,rfl,⟨k,rfl,_⟩,⟨_,_,rfl,⟨g,rfl,_⟩,⟨_,_,rfl,⟨e,rfl,_⟩,rfl⟩⟩⟩⟩,rfl⟩:=h
 exact⟨(d,k,g,e),rfl,hd⟩
theorem Dd (y:D) (h:Sh.str.IsV y):∃x:ByteArray,y=T x∧x.size≤9223372036854775807:=by
 obtain⟨s,rfl,hs⟩:=HJ h
 exact⟨s,rfl,hs⟩
theorem BG (y:D) (h:Cw.IsV y):∃x:Fm,y=fm x∧x.2.1.length≤9223372036854775807∧∀c∈x.2.1,c.size≤9223372036854775807:=by
 obtain⟨_,⟨_,_,rfl,⟨d,rfl,hd⟩,⟨_,_,rfl,hk,⟨_,_,rfl,⟨g,rfl⟩,⟨_,_,rfl,⟨e,rfl,_⟩,rfl⟩⟩⟩⟩,rfl⟩:=h
 obtain⟨m,rfl,h1,h2⟩:=yj Dd hk
 exact⟨(d,m,g,e),rfl,h1,h2⟩
theorem Dj {y:D} (h:BO.IsV y):∃s:Sp,y=sp s∧DI s:=by
 obtain⟨_,⟨_,_,rfl,hd,⟨_,_,rfl,hk,⟨_,_,rfl,⟨g,rfl,_⟩,⟨_,_,rfl,⟨e,rfl,_⟩,rfl⟩⟩⟩⟩,rfl⟩:=h
 obtain⟨m,rfl,h1,h2⟩:=yj Eu hd
 obtain⟨n,rfl,h3,h4⟩:=yj BG hk
 exact⟨(m,n,g,e),rfl,⟨h1,h2⟩,h3,h4⟩
abbrev Ca:Sh:=.st (.cons (.int .i64) (.cons (.int .i64) (.cons .str (.cons (.int .i64) .nil))))
theorem Dh (y:D) (h:Ca.IsV y):∃x:Stp,y=stp x∧x.2.2.1.size≤9223372036854775807:=by
 obtain⟨_,⟨_,_,rfl,⟨k,rfl,_⟩,⟨_,_,rfl,⟨g,rfl,_⟩,⟨_,_,rfl,⟨d,rfl,hd⟩,⟨_,_,rfl,⟨e,rfl,_⟩,rfl⟩⟩⟩⟩,rfl⟩:=h
 exact⟨(k,g,d,e),rfl,hd⟩
theorem law (ds:List D) (h:AU [BO,.sl Ca] ds):zQ ds=some (.ret [B true] []):=by
 obtain⟨x,y,rfl,h1,h2⟩:=Gf h
 obtain⟨s,rfl,hs⟩:=Dj h1
 obtain⟨ds,rfl,h3,h4⟩:=Ij h2
 have:∃m:List Stp,ds=m.map stp∧∀a∈m,a.2.2.1.size≤9223372036854775807:=by
  clear h h2 h3
  induction ds with
  | nil=>exact⟨[],rfl,by simp⟩
  | cons d ds ih =>
   obtain⟨a,rfl,ha⟩:=Dh d (h4 d (by simp))
   obtain⟨m,rfl,hm⟩:=ih (fun d hd=>h4 d (by simp [hd]))
   refine⟨a::m,rfl,fun b hb=>?_⟩
   rcases List.mem_cons.1 hb with rfl | hb
   ·exact ha
   ·exact hm b hb
 obtain⟨m,rfl,hm⟩:=this
 exact Ec hs ⟨by simpa [maxLen] using h3,hm⟩
theorem Hs (os:Os) (started:os.Started) (H:Type) (enc:TypeId × Value→H) :
  ReturnsInHanded {} Try.checked os 6 .any (Rows.fnExactRunShopSpec.pre6 enc Try.prog Try.f6 Rows.fnExactRunShopRow.domain false) (Rows.fnExactRunShopSpec.post enc Try.prog Try.f6 false true false false):=by
 refine returnsInHanded_of_change (C:=Try.checked) Try.own started (by kernel_rfl) Try.func6
  (ChangeSpec.witness6 (enc:=enc) (C:=Try.checked) false ⟨#[],#[.agg #[.slice none 0 0,.slice none 0 0,.int .i64 0,.int .i64 0],.slice none 0 0],[]⟩ 8 (by kernel_rfl) (by kernel_rfl) (by kernel_rfl) (by kernel_rfl)) ?_
 intro W base args ds gs before hval hW _ _
 exact FX lQ Try.func6 (by kernel_rfl) (by kernel_rfl) [BO,.sl Ca] Try.laidOut (by kernel_rfl) (by kernel_rfl) rfl rfl (by kernel_rfl) law rfl
  (fun l hl=>by
   match l,hl with
   | [_,_],_=>rfl) hval hW gw
theorem holds:Rows.FnExactRunShopSaid :=
 OpenClaim.holds_of_wide 6 Try.f6 rfl rfl rfl rfl rfl rfl rfl ⟨rfl,rfl,rfl,rfl,rfl⟩ rfl rfl rfl rfl rfl (by kernel_rfl) Try.func6 (by kernel_rfl)
  (of_decide_eq_true (by kernel_rfl)) (by unfold Func.isWrapper;first | (rw [if_pos (by decide +kernel)];kernel_rfl) | (rw [if_neg (by decide +kernel)];exact⟨rfl,rfl⟩))
  (fun os started H enc _=>Hs os started H enc)
end Go.Proofs.Ytankikbbdfgkbaa

