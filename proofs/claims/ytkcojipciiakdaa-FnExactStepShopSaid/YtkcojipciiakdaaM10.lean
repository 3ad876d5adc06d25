/-
  A part of the proof: contracts and plain forms of functions beneath the statement, made small by a program (names shortened, what is not needed left out).
-/
import Derived.Test.YtkcojipciiakdaaRows
import Derived.Test.YtkcojipciiakdaaM9
import Derived.Deep.RegionHeld3
import Derived.Deep.DrawnRows
open List renaming setIfInBounds_toArray → HA, set_cons_zero → HB, set_cons_succ → HC
open Go.AllReadyH renaming cons → HD, nil → HG
open Go.Act renaming put → HE
open Or renaming inl → HH
open Array renaming replicate → HI
set_option maxRecDepth 100000
set_option linter.unusedSimpArgs false
set_option linter.unusedVariables false
noncomputable section
namespace Go.Proofs.Ytkcojipciiakdaa
open Go Go.Proofs Go.V Go.RowKit
set_option maxRecDepth 100000
attribute [local go_sem ↓] Go.wp_at_zero Go.wp_at_succ
theorem Eg {s:Sp} (x:Stp) (h:cK s):cK (km s x)∧bZ (km s x).2.1≤1000:=by
 unfold km;have hz:cK ([],[],0,0)∧bZ []≤1000:=⟨⟨by simp [lH],by simp [Az]⟩,by simp [bZ]⟩
 split
 ·rename_i hok
  cases hst:gJ s x
  ·rw [uj hst]
   exact hz
  ·obtain⟨h1,h2⟩:=GK h hok hst
   exact⟨h1,Cb h2⟩
 ·exact hz
set_option maxHeartbeats 16000000 in
set_option maxRecDepth 1000000 in
theorem xi (s:Sp) (hs:Cg s) (x:Stp) (hx:x.2.2.1.size≤9223372036854775807) (v0:Value) (w:World) (F:Nat→Prop) (hr:aQ w F (sp s) v0) (hF:∀b,F b→b<w.heap.size) :
  Calls Try.prog 5 #[v0,stV x] w fun e w'=>e = .returned (.bool true)∧Below w.heap.size w w':=by
 obtain⟨A,n,c,A',n',c',rfl,hb0,hf0⟩:=eG hr;obtain⟨m,em,m0,m1⟩:=Fa s hs
 go_enter Try.func5,Try.ntmps5
 have B0:∀o p,Below w.heap.size w ((w.alloc o).alloc p):=fun o p=>(be w o).alloc (by simp) _
 have rep:∀{W:World},Below w.heap.size w W→aQ W F (sp s) (.agg #[.slice A n c,.slice A' n' c',.int .i64 s.2.2.1,.int .i64 s.2.2.2]):=fun {W} h=>aI (fun _ h=>h) (fun b hb=>h.block b (hF b hb)) hr
 have hFW:∀{W:World},Below w.heap.size w W→∀b,F b→b<W.heap.size:=fun {W} h b hb=>Nat.lt_of_lt_of_le (hF b hb) h.size
 have hc1:=fun o p=>ze s m em (rep (B0 o p)) (hFW (B0 o p))
 go_wp2_with (go_at_call 8;refine(hc1 _ _).mono ?_)
 rintro e w1 ⟨rfl,b1⟩;have bx:w1.heap[w.heap.size]?=some (.cells #[.slice A n c,.slice A' n' c',.int .i64 s.2.2.1,.int .i64 s.2.2.2] 25 (0,0)):=Below.some b1 (ah _ (ac _ rfl));have bs:w1.heap[w.heap.size+1]?=some (.cells #[.int .i64 x.1,.int .i64 x.2.1,.string x.2.2.1,.int .i64 x.2.2.2] 43 (0,0)):=Below.some b1 (ac _ (by simp));have B1:Below w.heap.size w w1:=bm (B0 _ _) b1 (by simp;omega);clear b1 hc1;by_cases hm:m<0
 ·go_wp2
  go_ret
  exact⟨rfl,B1⟩
 obtain⟨hok,htot⟩:=m1 (by omega);obtain⟨m2,e2,g1,g2⟩:=oZ x m hx (by omega) m0;have hcz:=rJ x m m2 e2 (w:=w1);obtain⟨cb0,cb1,cb2,cb3⟩:=aa bs
 go_wp2_with (go_at_call 20;refine hcz.mono ?_)
 rintro e w2 ⟨rfl,b1⟩;replace bx:=Below.some b1 bx;replace bs:=Below.some b1 bs;have B2:=bm B1 b1 B1.size;clear b1 hcz cb0 cb1 cb2 cb3 B1;by_cases hm2:m2<0
 ·go_wp2
  go_ret
  exact⟨rfl,B2⟩
 obtain⟨hRok,hRtot⟩:=Eg x hok;have hRl:=hRok.1.1;obtain⟨R,hR⟩:∃R,R=km s x:=⟨_,rfl⟩
 rw [←hR] at hRok hRtot hRl;obtain⟨bo,hBo⟩:∃bo,bo=iv s x:=⟨_,rfl⟩
 have hRH:Hid (km s x=R):=hR.symm;have hBoH:Hid (iv s x=bo):=hBo.symm;clear hR hBo;have hbxl:=aB bx;have hbsl:=aB bs;have hcells:Hid (∀X:World,Below w2.heap.size w2 X→(X.cell? ⟨w.heap.size,0,none⟩=some (.slice A n c)∧X.cell? ⟨w.heap.size,1,none⟩=some (.slice A' n' c')∧X.cell? ⟨w.heap.size,2,none⟩=some (.int .i64 s.2.2.1)∧X.cell? ⟨w.heap.size,3,none⟩=some (.int .i64 s.2.2.2))∧(X.cell? ⟨w.heap.size+1,0,none⟩=some (.int .i64 x.1)∧X.cell? ⟨w.heap.size+1,1,none⟩=some (.int .i64 x.2.1)∧X.cell? ⟨w.heap.size+1,2,none⟩=some (.string x.2.2.1)∧X.cell? ⟨w.heap.size+1,3,none⟩=some (.int .i64 x.2.2.2))):=fun X hX=>⟨aa ((hX.block _ hbxl).trans bx),aa ((hX.block _ hbsl).trans bs)⟩
 have repX:Hid (∀X:World,Below w2.heap.size w2 X→aQ X F (sp s) (.agg #[.slice A n c,.slice A' n' c',.int .i64 s.2.2.1,.int .i64 s.2.2.2])):=fun X hX=>rep (B2.trans (hX.mono B2.size))
 have hFX:Hid (∀X:World,Below w2.heap.size w2 X→∀b,F b→b<X.heap.size):=fun X hX=>hFW (B2.trans (hX.mono B2.size))
 go_upto_region 8 with fail
 go_cut [6,7] from 8 (fun tq tb wc=>∃q,tq = .pointer (some ⟨q,0,none⟩)∧tb = .bool bo∧Gr w2 wc R q)
 case first =>
  have hX0:Below w2.heap.size w2 w2.drew:=ab w2;have hSd:=hcells.out _ hX0;refine bO (l:=[_,_,_,_,_,_,_,_,_,_]) (o:=_) (S:=fun w'=>(w'.cell? ⟨w.heap.size,0,none⟩=some (.slice A n c)∧w'.cell? ⟨w.heap.size,1,none⟩=some (.slice A' n' c')∧w'.cell? ⟨w.heap.size,2,none⟩=some (.int .i64 s.2.2.1)∧w'.cell? ⟨w.heap.size,3,none⟩=some (.int .i64 s.2.2.2))∧(w'.cell? ⟨w.heap.size+1,0,none⟩=some (.int .i64 x.1)∧w'.cell? ⟨w.heap.size+1,1,none⟩=some (.int .i64 x.2.1)∧w'.cell? ⟨w.heap.size+1,2,none⟩=some (.string x.2.2.1)∧w'.cell? ⟨w.heap.size+1,3,none⟩=some (.int .i64 x.2.2.2))) (by kernel_rfl) (by kernel_rfl) hSd (fun hHeld=>?_)
  change wpAnyH _ _ _ _ _ 10 (HI 10 false) _ _
  generalize w2.drew=W0 at *;have hX:=hX0;refine wpAnyH_take (i:=0) (oi:=_) (v:=?va1) rfl (by kernel_rfl) (by kernel_rfl) (by kernel_rfl) (fun _ _ _ h=>h) (HH ⟨by rfl,?ya1⟩) hHeld ?ra1
  case ya1=>(intro w0 hSw;obtain⟨hSw0,hSw1⟩:=hSw;go_simp;try with_reducible rfl)
  (try simp only [HE,HA,HB,HC])
  refine wpAnyH_take (i:=2) (oi:=_) (v:=?va2) rfl (by kernel_rfl) (by kernel_rfl) (by kernel_rfl) (fun _ _ _ h=>h) (HH ⟨by rfl,?ya2⟩) hHeld ?ra2
  case ya2=>(intro w0 hSw;obtain⟨hSw0,hSw1⟩:=hSw;go_simp;try with_reducible rfl)
  (try simp only [HE,HA,HB,HC])
  refine wpAnyH_ready (rs:=[1,8]) (by kernel_rfl) (by simp) ?_
  refine HD (o:=_) rfl (fun K hK=>?_) ?_
  ·go_simp
   go_at_call 10
   refine(fM s hok _ _ F (repX.out _ hX) (hFX.out _ hX)).mono ?_
   rintro e wa ⟨va,Va,ga,capa,ya,rfl,sa,bq⟩;have hXs:w2.heap.size≤W0.heap.size:=hX.size;have hX:=hX.trans (bq.mono hX.size);clear bq
   go_wp2_with fail
   refine hK.out _ _ ?_ (fun hHeld=>?_)
   ·exact hcells.out _ hX
   clear hK K
   (try simp only [HE,HA,HB,HC])
   refine wpAnyH_ready (rs:=[3,8]) (by kernel_rfl) (by simp) ?_
   refine HD (o:=_) rfl (fun K hK=>?_) ?_
   ·go_simp
    go_at_call 22
    refine(cm x).mono ?_
    rintro e wb ⟨rfl,bq⟩;have hXs:w2.heap.size≤wa.heap.size:=hX.size;have hX:=hX.trans (bq.mono hX.size);replace sa:=sa.below bq;clear bq
    go_wp2_with fail
    refine hK.out _ _ ?_ (fun hHeld=>?_)
    ·exact hcells.out _ hX
    clear hK K
    (try simp only [HE,HA,HB,HC])
    refine wpAnyH_ready (rs:=[4,8]) (by kernel_rfl) (by simp) ?_
    refine HD (o:=_) rfl (fun K hK=>?_) ?_
    ·go_simp
     go_at_call 21
     refine(dP s hok x hx _ _ _ sa.rep (fun b hb=>(sa.lt b hb).2)).mono ?_
     rintro e wq ⟨vq,rfl,⟨Vbq,Vfq,yq,sm⟩,bq⟩;have hXs:w2.heap.size≤wb.heap.size:=hX.size;have hX:=hX.trans (bq.mono hX.size);replace sa:=sa.below bq;rw [hRH.out] at sm;rw [hBoH.out];obtain rfl:=sm.val;obtain⟨mA,mn,mc,rfl⟩:=aU sm.box;obtain⟨mfA,mfn,mfc,rfl⟩:=am sm.fms.own;have hmlt:=sm.lt;have smb:∀b,ShS (.slice mA mn mc) (.slice mfA mfn mfc) yq b→w2.heap.size≤b:=fun b hb=>by have:=(hmlt b hb).1;omega
     replace sm:ShopAt wq w2.heap.size _ _ _ yq R:=⟨sm.val,sm.box,fun b hb=>smb b (.inl hb),sm.fms.base hXs,sm.dis⟩
     clear bq
     go_wp2_with fail
     refine hK.out _ _ ?_ (fun hHeld=>?_)
     ·exact hcells.out _ hX
     clear hK K
     (try simp only [HE,HA,HB,HC])
     refine wpAnyH_take (i:=5) (oi:=_) (v:=?va3) rfl (by kernel_rfl) (by kernel_rfl) (by kernel_rfl) (fun _ _ _ h=>h) (HH ⟨by rfl,?ya3⟩) hHeld ?ra3
     case ya3=>(intro w0 hSw;obtain⟨hSw0,hSw1⟩:=hSw;go_simp;try with_reducible rfl)
     (try simp only [HE,HA,HB,HC])
     refine wpAnyH_take (i:=6) (oi:=_) (v:=?va4) rfl (by kernel_rfl) (by kernel_rfl) (by kernel_rfl) (fun _ _ _ h=>h) (HH ⟨by rfl,?ya4⟩) hHeld ?ra4
     case ya4=>(intro w0 hSw;obtain⟨hSw0,hSw1⟩:=hSw;go_simp;try with_reducible rfl)
     (try simp only [HE,HA,HB,HC])
     refine wpAnyH_take (i:=7) (oi:=_) (v:=?va5) rfl (by kernel_rfl) (by kernel_rfl) (by kernel_rfl) (fun _ _ _ h=>h) (HH ⟨by rfl,?ya5⟩) hHeld ?ra5
     case ya5=>(intro w0 hSw;obtain⟨hSw0,hSw1⟩:=hSw;go_simp;try with_reducible rfl)
     (try simp only [HE,HA,HB,HC])
     refine wpAnyH_ready (rs:=[8]) (by kernel_rfl) (by simp) ?_
     refine HD (o:=_) rfl (fun K hK=>?_) ?_
     ·go_simp
      have hXp:=hX;have hX:=hX.alloc hX.size (.cells #[.slice none 0 0,.slice none 0 0,.int .i64 0,.int .i64 0] 33);have hq:(wq.alloc (.cells #[.slice none 0 0,.slice none 0 0,.int .i64 0,.int .i64 0] 33)).heap[wq.heap.size]?=some (.cells #[.slice none 0 0,.slice none 0 0,.int .i64 0,.int .i64 0] 33 (0,0)):=ac _ rfl;have hqge:w2.heap.size≤wq.heap.size:=hXp.size;have hqb:∀b,ShS (.slice mA mn mc) (.slice mfA mfn mfc) yq b→wq.heap.size≠b:=fun b hb=>by have:=hmlt b hb;omega
      refine hK.out _ _ ?_ (fun hHeld=>?_)
      ·exact hcells.out _ hX
      clear hK K
      (try simp only [HE,HA,HB,HC])
      refine wpAnyH_ready (rs:=[9]) (by kernel_rfl) (by simp) ?_
      refine HD (o:=_) rfl (fun K hK=>?_) ?_
      ·obtain⟨g0,g1,g2,g3⟩:=aa hq
       obtain⟨j0,j1,j2,j3⟩:=aG hq
       go_simp
       have hX:=hXp.alloc hXp.size (.cells #[.slice mA mn mc,.slice mfA mfn mfc,.int .i64 R.2.2.1,.int .i64 R.2.2.2] 33);replace hq:(wq.alloc (.cells #[.slice mA mn mc,.slice mfA mfn mfc,.int .i64 R.2.2.1,.int .i64 R.2.2.2] 33)).heap[wq.heap.size]?=some (.cells #[.slice mA mn mc,.slice mfA mfn mfc,.int .i64 R.2.2.1,.int .i64 R.2.2.2] 33 (0,0)):=ac _ rfl;replace sm:=sm.below (be _ (.cells #[.slice mA mn mc,.slice mfA mfn mfc,.int .i64 R.2.2.1,.int .i64 R.2.2.2] 33));clear g0 g1 g2 g3 j0 j1 j2 j3;refine hK.out _ _ ?_ (fun hHeld=>?_)
       ·exact hcells.out _ hX
       clear hK K
       (try simp only [HE,HA,HB,HC])
       refine aL (by kernel_rfl) ?_
       go_simp
       have hql:=aB hq
       go_wp2
       go_meet
       case rel=>exact⟨_,rfl,rfl,⟨_,_,_,_,_,_,_,hq,sm,fun h=>hqb _ h rfl⟩,hqge,hql,hX⟩
      exact HG
     exact HG
    refine HD (o:=_) rfl (fun K hK=>?_) ?_
    ·go_simp
     have hXp:=hX;have hX:=hX.alloc hX.size (.cells #[.slice none 0 0,.slice none 0 0,.int .i64 0,.int .i64 0] 33);have hq:(wb.alloc (.cells #[.slice none 0 0,.slice none 0 0,.int .i64 0,.int .i64 0] 33)).heap[wb.heap.size]?=some (.cells #[.slice none 0 0,.slice none 0 0,.int .i64 0,.int .i64 0] 33 (0,0)):=ac _ rfl;have hqge:w2.heap.size≤wb.heap.size:=hXp.size;replace sa:=sa.below (be _ (.cells #[.slice none 0 0,.slice none 0 0,.int .i64 0,.int .i64 0] 33));refine hK.out _ _ ?_ (fun hHeld=>?_)
     ·exact hcells.out _ hX
     clear hK K
     (try simp only [HE,HA,HB,HC])
     refine wpAnyH_ready (rs:=[4]) (by kernel_rfl) (by simp) ?_
     refine HD (o:=_) rfl (fun K hK=>?_) ?_
     ·go_simp
      go_at_call 21
      refine(dP s hok x hx _ _ _ sa.rep (fun b hb=>(sa.lt b hb).2)).mono ?_
      rintro e wq ⟨vq,rfl,⟨Vbq,Vfq,yq,sm⟩,bq⟩;have hXs:w2.heap.size≤(wb.alloc (.cells #[.slice none 0 0,.slice none 0 0,.int .i64 0,.int .i64 0] 33)).heap.size:=hX.size;have hX:=hX.trans (bq.mono hX.size);have hqX:=aB hq;replace hq:=Below.some bq hq;replace sa:=sa.below bq;rw [hRH.out] at sm;rw [hBoH.out];obtain rfl:=sm.val;obtain⟨mA,mn,mc,rfl⟩:=aU sm.box;obtain⟨mfA,mfn,mfc,rfl⟩:=am sm.fms.own;have hmlt:=sm.lt;have hqb:∀b,ShS (.slice mA mn mc) (.slice mfA mfn mfc) yq b→wb.heap.size≠b:=fun b hb=>by have:=hmlt b hb;omega
      have smb:∀b,ShS (.slice mA mn mc) (.slice mfA mfn mfc) yq b→w2.heap.size≤b:=fun b hb=>by have:=(hmlt b hb).1;omega
      replace sm:ShopAt wq w2.heap.size _ _ _ yq R:=⟨sm.val,sm.box,fun b hb=>smb b (.inl hb),sm.fms.base hXs,sm.dis⟩
      clear bq
      go_wp2_with fail
      refine hK.out _ _ ?_ (fun hHeld=>?_)
      ·exact hcells.out _ hX
      clear hK K
      (try simp only [HE,HA,HB,HC])
      refine wpAnyH_take (i:=5) (oi:=_) (v:=?va6) rfl (by kernel_rfl) (by kernel_rfl) (by kernel_rfl) (fun _ _ _ h=>h) (HH ⟨by rfl,?ya6⟩) hHeld ?ra6
      case ya6=>(intro w0 hSw;obtain⟨hSw0,hSw1⟩:=hSw;go_simp;try with_reducible rfl)
      (try simp only [HE,HA,HB,HC])
      refine wpAnyH_take (i:=6) (oi:=_) (v:=?va7) rfl (by kernel_rfl) (by kernel_rfl) (by kernel_rfl) (fun _ _ _ h=>h) (HH ⟨by rfl,?ya7⟩) hHeld ?ra7
      case ya7=>(intro w0 hSw;obtain⟨hSw0,hSw1⟩:=hSw;go_simp;try with_reducible rfl)
      (try simp only [HE,HA,HB,HC])
      refine wpAnyH_take (i:=7) (oi:=_) (v:=?va8) rfl (by kernel_rfl) (by kernel_rfl) (by kernel_rfl) (fun _ _ _ h=>h) (HH ⟨by rfl,?ya8⟩) hHeld ?ra8
      case ya8=>(intro w0 hSw;obtain⟨hSw0,hSw1⟩:=hSw;go_simp;try with_reducible rfl)
      (try simp only [HE,HA,HB,HC])
      refine wpAnyH_ready (rs:=[9]) (by kernel_rfl) (by simp) ?_
      refine HD (o:=_) rfl (fun K hK=>?_) ?_
      ·obtain⟨g0,g1,g2,g3⟩:=aa hq
       obtain⟨j0,j1,j2,j3⟩:=aG hq
       go_simp
       have hX:=bd (.slice mA mn mc) (.slice mfA mfn mfc) (.int .i64 R.2.2.1) (.int .i64 R.2.2.2) hX hqge;replace hq:=aD (.slice mA mn mc) (.slice mfA mfn mfc) (.int .i64 R.2.2.1) (.int .i64 R.2.2.2) hq;replace sm:=sm.set4 (.slice mA mn mc) (.slice mfA mfn mfc) (.int .i64 R.2.2.1) (.int .i64 R.2.2.2) hqb;clear g0 g1 g2 g3 j0 j1 j2 j3;generalize ((((wq.setCell ⟨wb.heap.size,0,none⟩ (.slice mA mn mc)).setCell ⟨wb.heap.size,1,none⟩ (.slice mfA mfn mfc)).setCell ⟨wb.heap.size,2,none⟩ (.int .i64 R.2.2.1)).setCell ⟨wb.heap.size,3,none⟩ (.int .i64 R.2.2.2))=w8 at *;refine hK.out _ _ ?_ (fun hHeld=>?_)
       ·exact hcells.out _ hX
       clear hK K
       (try simp only [HE,HA,HB,HC])
       refine aL (by kernel_rfl) ?_
       go_simp
       have hql:=aB hq
       go_wp2
       go_meet
       case rel=>exact⟨_,rfl,rfl,⟨_,_,_,_,_,_,_,hq,sm,fun h=>hqb _ h rfl⟩,hqge,hql,hX⟩
      exact HG
     exact HG
    exact HG
   refine HD (o:=_) rfl (fun K hK=>?_) ?_
   ·go_simp
    have hXp:=hX;have hX:=hX.alloc hX.size (.cells #[.slice none 0 0,.slice none 0 0,.int .i64 0,.int .i64 0] 33);have hq:(wa.alloc (.cells #[.slice none 0 0,.slice none 0 0,.int .i64 0,.int .i64 0] 33)).heap[wa.heap.size]?=some (.cells #[.slice none 0 0,.slice none 0 0,.int .i64 0,.int .i64 0] 33 (0,0)):=ac _ rfl;have hqge:w2.heap.size≤wa.heap.size:=hXp.size;replace sa:=sa.below (be _ (.cells #[.slice none 0 0,.slice none 0 0,.int .i64 0,.int .i64 0] 33));refine hK.out _ _ ?_ (fun hHeld=>?_)
    ·exact hcells.out _ hX
    clear hK K
    (try simp only [HE,HA,HB,HC])
    refine wpAnyH_ready (rs:=[3]) (by kernel_rfl) (by simp) ?_
    refine HD (o:=_) rfl (fun K hK=>?_) ?_
    ·go_simp
     go_at_call 22
     refine(cm x).mono ?_
     rintro e wb ⟨rfl,bq⟩;have hXs:w2.heap.size≤(wa.alloc (.cells #[.slice none 0 0,.slice none 0 0,.int .i64 0,.int .i64 0] 33)).heap.size:=hX.size;have hX:=hX.trans (bq.mono hX.size);have hqX:=aB hq;replace hq:=Below.some bq hq;replace sa:=sa.below bq;clear bq
     go_wp2_with fail
     refine hK.out _ _ ?_ (fun hHeld=>?_)
     ·exact hcells.out _ hX
     clear hK K
     (try simp only [HE,HA,HB,HC])
     refine wpAnyH_ready (rs:=[4]) (by kernel_rfl) (by simp) ?_
     refine HD (o:=_) rfl (fun K hK=>?_) ?_
     ·go_simp
      go_at_call 21
      refine(dP s hok x hx _ _ _ sa.rep (fun b hb=>(sa.lt b hb).2)).mono ?_
      rintro e wq ⟨vq,rfl,⟨Vbq,Vfq,yq,sm⟩,bq⟩;have hXs:w2.heap.size≤wb.heap.size:=hX.size;have hX:=hX.trans (bq.mono hX.size);have hqX:=aB hq;replace hq:=Below.some bq hq;replace sa:=sa.below bq;rw [hRH.out] at sm;rw [hBoH.out];obtain rfl:=sm.val;obtain⟨mA,mn,mc,rfl⟩:=aU sm.box;obtain⟨mfA,mfn,mfc,rfl⟩:=am sm.fms.own;have hmlt:=sm.lt;have hqb:∀b,ShS (.slice mA mn mc) (.slice mfA mfn mfc) yq b→wa.heap.size≠b:=fun b hb=>by have:=hmlt b hb;omega
      have smb:∀b,ShS (.slice mA mn mc) (.slice mfA mfn mfc) yq b→w2.heap.size≤b:=fun b hb=>by have:=(hmlt b hb).1;omega
      replace sm:ShopAt wq w2.heap.size _ _ _ yq R:=⟨sm.val,sm.box,fun b hb=>smb b (.inl hb),sm.fms.base hXs,sm.dis⟩
      clear bq
      go_wp2_with fail
      refine hK.out _ _ ?_ (fun hHeld=>?_)
      ·exact hcells.out _ hX
      clear hK K
      (try simp only [HE,HA,HB,HC])
      refine wpAnyH_take (i:=5) (oi:=_) (v:=?va9) rfl (by kernel_rfl) (by kernel_rfl) (by kernel_rfl) (fun _ _ _ h=>h) (HH ⟨by rfl,?ya9⟩) hHeld ?ra9
      case ya9=>(intro w0 hSw;obtain⟨hSw0,hSw1⟩:=hSw;go_simp;try with_reducible rfl)
      (try simp only [HE,HA,HB,HC])
      refine wpAnyH_take (i:=6) (oi:=_) (v:=?va10) rfl (by kernel_rfl) (by kernel_rfl) (by kernel_rfl) (fun _ _ _ h=>h) (HH ⟨by rfl,?ya10⟩) hHeld ?ra10
      case ya10=>(intro w0 hSw;obtain⟨hSw0,hSw1⟩:=hSw;go_simp;try with_reducible rfl)
      (try simp only [HE,HA,HB,HC])
      refine wpAnyH_take (i:=7) (oi:=_) (v:=?va11) rfl (by kernel_rfl) (by kernel_rfl) (by kernel_rfl) (fun _ _ _ h=>h) (HH ⟨by rfl,?ya11⟩) hHeld ?ra11
      case ya11=>(intro w0 hSw;obtain⟨hSw0,hSw1⟩:=hSw;go_simp;try with_reducible rfl)
      (try simp only [HE,HA,HB,HC])
      refine wpAnyH_ready (rs:=[9]) (by kernel_rfl) (by simp) ?_
      refine HD (o:=_) rfl (fun K hK=>?_) ?_
      ·obtain⟨g0,g1,g2,g3⟩:=aa hq
       obtain⟨j0,j1,j2,j3⟩:=aG hq
       go_simp
       have hX:=bd (.slice mA mn mc) (.slice mfA mfn mfc) (.int .i64 R.2.2.1) (.int .i64 R.2.2.2) hX hqge;replace hq:=aD (.slice mA mn mc) (.slice mfA mfn mfc) (.int .i64 R.2.2.1) (.int .i64 R.2.2.2) hq;replace sm:=sm.set4 (.slice mA mn mc) (.slice mfA mfn mfc) (.int .i64 R.2.2.1) (.int .i64 R.2.2.2) hqb;clear g0 g1 g2 g3 j0 j1 j2 j3;generalize ((((wq.setCell ⟨wa.heap.size,0,none⟩ (.slice mA mn mc)).setCell ⟨wa.heap.size,1,none⟩ (.slice mfA mfn mfc)).setCell ⟨wa.heap.size,2,none⟩ (.int .i64 R.2.2.1)).setCell ⟨wa.heap.size,3,none⟩ (.int .i64 R.2.2.2))=w8 at *;refine hK.out _ _ ?_ (fun hHeld=>?_)
       ·exact hcells.out _ hX
       clear hK K
       (try simp only [HE,HA,HB,HC])
       refine aL (by kernel_rfl) ?_
       go_simp
       have hql:=aB hq
       go_wp2
       go_meet
       case rel=>exact⟨_,rfl,rfl,⟨_,_,_,_,_,_,_,hq,sm,fun h=>hqb _ h rfl⟩,hqge,hql,hX⟩
      exact HG
     exact HG
    exact HG
   exact HG
  refine HD (o:=_) rfl (fun K hK=>?_) ?_
  ·go_simp
   have hXp:=hX;have hX:=hX.alloc hX.size (.cells #[.slice none 0 0,.slice none 0 0,.int .i64 0,.int .i64 0] 33);have hq:(W0.alloc (.cells #[.slice none 0 0,.slice none 0 0,.int .i64 0,.int .i64 0] 33)).heap[W0.heap.size]?=some (.cells #[.slice none 0 0,.slice none 0 0,.int .i64 0,.int .i64 0] 33 (0,0)):=ac _ rfl;have hqge:w2.heap.size≤W0.heap.size:=hXp.size;refine hK.out _ _ ?_ (fun hHeld=>?_)
   ·exact hcells.out _ hX
   clear hK K
   (try simp only [HE,HA,HB,HC])
   refine wpAnyH_ready (rs:=[1]) (by kernel_rfl) (by simp) ?_
   refine HD (o:=_) rfl (fun K hK=>?_) ?_
   ·go_simp
    go_at_call 10
    refine(fM s hok _ _ F (repX.out _ hX) (hFX.out _ hX)).mono ?_
    rintro e wa ⟨va,Va,ga,capa,ya,rfl,sa,bq⟩;have hXs:w2.heap.size≤(W0.alloc (.cells #[.slice none 0 0,.slice none 0 0,.int .i64 0,.int .i64 0] 33)).heap.size:=hX.size;have hX:=hX.trans (bq.mono hX.size);have hqX:=aB hq;replace hq:=Below.some bq hq;clear bq
    go_wp2_with fail
    refine hK.out _ _ ?_ (fun hHeld=>?_)
    ·exact hcells.out _ hX
    clear hK K
    (try simp only [HE,HA,HB,HC])
    refine wpAnyH_ready (rs:=[3]) (by kernel_rfl) (by simp) ?_
    refine HD (o:=_) rfl (fun K hK=>?_) ?_
    ·go_simp
     go_at_call 22
     refine(cm x).mono ?_
     rintro e wb ⟨rfl,bq⟩;have hXs:w2.heap.size≤wa.heap.size:=hX.size;have hX:=hX.trans (bq.mono hX.size);have hqX:=aB hq;replace hq:=Below.some bq hq;replace sa:=sa.below bq;clear bq
     go_wp2_with fail
     refine hK.out _ _ ?_ (fun hHeld=>?_)
     ·exact hcells.out _ hX
     clear hK K
     (try simp only [HE,HA,HB,HC])
     refine wpAnyH_ready (rs:=[4]) (by kernel_rfl) (by simp) ?_
     refine HD (o:=_) rfl (fun K hK=>?_) ?_
     ·go_simp
      go_at_call 21
      refine(dP s hok x hx _ _ _ sa.rep (fun b hb=>(sa.lt b hb).2)).mono ?_
      rintro e wq ⟨vq,rfl,⟨Vbq,Vfq,yq,sm⟩,bq⟩;have hXs:w2.heap.size≤wb.heap.size:=hX.size;have hX:=hX.trans (bq.mono hX.size);have hqX:=aB hq;replace hq:=Below.some bq hq;replace sa:=sa.below bq;rw [hRH.out] at sm;rw [hBoH.out];obtain rfl:=sm.val;obtain⟨mA,mn,mc,rfl⟩:=aU sm.box;obtain⟨mfA,mfn,mfc,rfl⟩:=am sm.fms.own;have hmlt:=sm.lt;have hqb:∀b,ShS (.slice mA mn mc) (.slice mfA mfn mfc) yq b→W0.heap.size≠b:=fun b hb=>by have:=hmlt b hb;omega
      have smb:∀b,ShS (.slice mA mn mc) (.slice mfA mfn mfc) yq b→w2.heap.size≤b:=fun b hb=>by have:=(hmlt b hb).1;omega
      replace sm:ShopAt wq w2.heap.size _ _ _ yq R:=⟨sm.val,sm.box,fun b hb=>smb b (.inl hb),sm.fms.base hXs,sm.dis⟩
      clear bq
      go_wp2_with fail
      refine hK.out _ _ ?_ (fun hHeld=>?_)
      ·exact hcells.out _ hX
      clear hK K
      (try simp only [HE,HA,HB,HC])
      refine wpAnyH_take (i:=5) (oi:=_) (v:=?va12) rfl (by kernel_rfl) (by kernel_rfl) (by kernel_rfl) (fun _ _ _ h=>h) (HH ⟨by rfl,?ya12⟩) hHeld ?ra12
      case ya12=>(intro w0 hSw;obtain⟨hSw0,hSw1⟩:=hSw;go_simp;try with_reducible rfl)
      (try simp only [HE,HA,HB,HC])
      refine wpAnyH_take (i:=6) (oi:=_) (v:=?va13) rfl (by kernel_rfl) (by kernel_rfl) (by kernel_rfl) (fun _ _ _ h=>h) (HH ⟨by rfl,?ya13⟩) hHeld ?ra13
      case ya13=>(intro w0 hSw;obtain⟨hSw0,hSw1⟩:=hSw;go_simp;try with_reducible rfl)
      (try simp only [HE,HA,HB,HC])
      refine wpAnyH_take (i:=7) (oi:=_) (v:=?va14) rfl (by kernel_rfl) (by kernel_rfl) (by kernel_rfl) (fun _ _ _ h=>h) (HH ⟨by rfl,?ya14⟩) hHeld ?ra14
      case ya14=>(intro w0 hSw;obtain⟨hSw0,hSw1⟩:=hSw;go_simp;try with_reducible rfl)
      (try simp only [HE,HA,HB,HC])
      refine wpAnyH_ready (rs:=[9]) (by kernel_rfl) (by simp) ?_
      refine HD (o:=_) rfl (fun K hK=>?_) ?_
      ·obtain⟨g0,g1,g2,g3⟩:=aa hq
       obtain⟨j0,j1,j2,j3⟩:=aG hq
       go_simp
       have hX:=bd (.slice mA mn mc) (.slice mfA mfn mfc) (.int .i64 R.2.2.1) (.int .i64 R.2.2.2) hX hqge;replace hq:=aD (.slice mA mn mc) (.slice mfA mfn mfc) (.int .i64 R.2.2.1) (.int .i64 R.2.2.2) hq;replace sm:=sm.set4 (.slice mA mn mc) (.slice mfA mfn mfc) (.int .i64 R.2.2.1) (.int .i64 R.2.2.2) hqb;clear g0 g1 g2 g3 j0 j1 j2 j3;generalize ((((wq.setCell ⟨W0.heap.size,0,none⟩ (.slice mA mn mc)).setCell ⟨W0.heap.size,1,none⟩ (.slice mfA mfn mfc)).setCell ⟨W0.heap.size,2,none⟩ (.int .i64 R.2.2.1)).setCell ⟨W0.heap.size,3,none⟩ (.int .i64 R.2.2.2))=w8 at *;refine hK.out _ _ ?_ (fun hHeld=>?_)
       ·exact hcells.out _ hX
       clear hK K
       (try simp only [HE,HA,HB,HC])
       refine aL (by kernel_rfl) ?_
       go_simp
       have hql:=aB hq
       go_wp2
       go_meet
       case rel=>exact⟨_,rfl,rfl,⟨_,_,_,_,_,_,_,hq,sm,fun h=>hqb _ h rfl⟩,hqge,hql,hX⟩
      exact HG
     exact HG
    exact HG
   exact HG
  exact HG
 obtain⟨q8,rfl,rfl,⟨wA,wn,wk,wfA,wfn,wfk,yW,b4x,sW,hnW⟩,hqge8,hql8,bq⟩:=hcut;generalize wc=w3 at *;replace bx:=Below.some bq bx;replace bs:=Below.some bq bs;have B3:=bm B2 bq B2.size;have hs3:=bq.size;have fW:=sW.lt;have bxlt:=aB bx;have bslt:=aB bs;clear hcells repX hFX bq hbxl hbsl;have hc4:=fM s hok _ _ F (rep B3) (hFW B3);obtain⟨cb0,cb1,cb2,cb3⟩:=aa bx
 go_upto_region 10 with (go_at_call 10;refine hc4.mono ?_;rintro e w4 ⟨vx,Vb,g,cap,ys,rfl,sx,b4⟩;have fx:=sx.lt;obtain⟨bA,bn,bc,rfl⟩:=aU sx.box;obtain rfl:=sx.val)
 clear hc4 cb0 cb1 cb2 cb3;replace bx:=Below.some b4 bx;replace bs:=Below.some b4 bs;replace b4x:=Below.some b4 b4x;replace sW:=sW.below b4;have B4:=bm B3 b4 B3.size;have hs4:=b4.size;clear b4;have ba:=be w4 (.cells #[.slice bA bn bc,.slice (some ⟨g,0,none⟩) s.2.1.length cap,.int .i64 s.2.2.1,.int .i64 s.2.2.2] 33);have b6x:(w4.alloc (.cells #[.slice bA bn bc,.slice (some ⟨g,0,none⟩) s.2.1.length cap,.int .i64 s.2.2.1,.int .i64 s.2.2.2] 33)).heap[w4.heap.size]?=some (.cells #[.slice bA bn bc,.slice (some ⟨g,0,none⟩) s.2.1.length cap,.int .i64 s.2.2.1,.int .i64 s.2.2.2] 33 (0,0)):=ac _ rfl;replace bx:=Below.some ba bx;replace bs:=Below.some ba bs;replace b4x:=Below.some ba b4x;replace sW:=sW.below ba;replace sx:=sx.below ba;replace B4:=bm B4 ba B4.size;have sz4:(w4.alloc (.cells #[.slice bA bn bc,.slice (some ⟨g,0,none⟩) s.2.1.length cap,.int .i64 s.2.2.1,.int .i64 s.2.2.2] 33)).heap.size=w4.heap.size+1:=AG _ _;clear ba;generalize w4.alloc (.cells #[.slice bA bn bc,.slice (some ⟨g,0,none⟩) s.2.1.length cap,.int .i64 s.2.2.1,.int .i64 s.2.2.2] 33)=w4b at *;have hsxl:=aB b6x;have hbsl:=aB bs;have hcells:Hid (∀X:World,Below w4b.heap.size w4b X→(X.cell? ⟨w4.heap.size,0,none⟩=some (.slice bA bn bc)∧X.cell? ⟨w4.heap.size,1,none⟩=some (.slice (some ⟨g,0,none⟩) s.2.1.length cap)∧X.cell? ⟨w4.heap.size,2,none⟩=some (.int .i64 s.2.2.1)∧X.cell? ⟨w4.heap.size,3,none⟩=some (.int .i64 s.2.2.2))∧(X.cell? ⟨w.heap.size+1,0,none⟩=some (.int .i64 x.1)∧X.cell? ⟨w.heap.size+1,1,none⟩=some (.int .i64 x.2.1)∧X.cell? ⟨w.heap.size+1,2,none⟩=some (.string x.2.2.1)∧X.cell? ⟨w.heap.size+1,3,none⟩=some (.int .i64 x.2.2.2))):=fun X hX=>⟨aa ((hX.block _ hsxl).trans b6x),aa ((hX.block _ hbsl).trans bs)⟩
 have sxX:Hid (∀X:World,Below w4b.heap.size w4b X→ShopAt X w3.heap.size _ _ _ ys s):=fun X hX=>sx.below hX
 go_upto_region 10 with fail
 go_cut [9,10] from 11 (fun tq tb wc=>∃q,tq = .pointer (some ⟨q,0,none⟩)∧tb = .bool bo∧Gr w4b wc R q)
 case first =>
  have hX0:Below w4b.heap.size w4b w4b.drew:=ab w4b;have hSd:=hcells.out _ hX0;refine bO (l:=[_,_,_,_,_,_,_,_,_]) (o:=_) (S:=fun w'=>(w'.cell? ⟨w4.heap.size,0,none⟩=some (.slice bA bn bc)∧w'.cell? ⟨w4.heap.size,1,none⟩=some (.slice (some ⟨g,0,none⟩) s.2.1.length cap)∧w'.cell? ⟨w4.heap.size,2,none⟩=some (.int .i64 s.2.2.1)∧w'.cell? ⟨w4.heap.size,3,none⟩=some (.int .i64 s.2.2.2))∧(w'.cell? ⟨w.heap.size+1,0,none⟩=some (.int .i64 x.1)∧w'.cell? ⟨w.heap.size+1,1,none⟩=some (.int .i64 x.2.1)∧w'.cell? ⟨w.heap.size+1,2,none⟩=some (.string x.2.2.1)∧w'.cell? ⟨w.heap.size+1,3,none⟩=some (.int .i64 x.2.2.2))) (by kernel_rfl) (by kernel_rfl) hSd (fun hHeld=>?_)
  change wpAnyH _ _ _ _ _ 9 (HI 9 false) _ _
  generalize w4b.drew=W0 at *;have hX:=hX0;refine wpAnyH_take (i:=0) (oi:=_) (v:=?vb1) rfl (by kernel_rfl) (by kernel_rfl) (by kernel_rfl) (fun _ _ _ h=>h) (HH ⟨by rfl,?yb1⟩) hHeld ?rb1
  case yb1=>(intro w0 hSw;obtain⟨hSw0,hSw1⟩:=hSw;go_simp;try with_reducible rfl)
  (try simp only [HE,HA,HB,HC])
  refine wpAnyH_take (i:=1) (oi:=_) (v:=?vb2) rfl (by kernel_rfl) (by kernel_rfl) (by kernel_rfl) (fun _ _ _ h=>h) (HH ⟨by rfl,?yb2⟩) hHeld ?rb2
  case yb2=>(intro w0 hSw;obtain⟨hSw0,hSw1⟩:=hSw;go_simp;try with_reducible rfl)
  (try simp only [HE,HA,HB,HC])
  refine wpAnyH_ready (rs:=[2,7]) (by kernel_rfl) (by simp) ?_
  refine HD (o:=_) rfl (fun K hK=>?_) ?_
  ·go_simp
   go_at_call 22
   refine(cm x).mono ?_
   rintro e wb ⟨rfl,bq⟩;have hXs:w4b.heap.size≤W0.heap.size:=hX.size;have hX:=hX.trans (bq.mono hX.size);clear bq
   go_wp2_with fail
   refine hK.out _ _ ?_ (fun hHeld=>?_)
   ·exact hcells.out _ hX
   clear hK K
   (try simp only [HE,HA,HB,HC])
   refine wpAnyH_ready (rs:=[3,7]) (by kernel_rfl) (by simp) ?_
   refine HD (o:=_) rfl (fun K hK=>?_) ?_
   ·go_simp
    go_at_call 23
    refine(dm s hok x hx _ _ _ (sxX.out _ hX).rep (fun b hb=>((sxX.out _ hX).lt b hb).2)).mono ?_
    rintro e wq ⟨vq,rfl,⟨Vbq,Vfq,yq,sm⟩,bq⟩;have hXs:w4b.heap.size≤wb.heap.size:=hX.size;have hX:=hX.trans (bq.mono hX.size);rw [hRH.out] at sm;rw [hBoH.out];obtain rfl:=sm.val;obtain⟨mA,mn,mc,rfl⟩:=aU sm.box;obtain⟨mfA,mfn,mfc,rfl⟩:=am sm.fms.own;have hmlt:=sm.lt;have smb:∀b,ShS (.slice mA mn mc) (.slice mfA mfn mfc) yq b→w4b.heap.size≤b:=fun b hb=>by have:=(hmlt b hb).1;omega
    replace sm:ShopAt wq w4b.heap.size _ _ _ yq R:=⟨sm.val,sm.box,fun b hb=>smb b (.inl hb),sm.fms.base hXs,sm.dis⟩
    clear bq
    go_wp2_with fail
    refine hK.out _ _ ?_ (fun hHeld=>?_)
    ·exact hcells.out _ hX
    clear hK K
    (try simp only [HE,HA,HB,HC])
    refine wpAnyH_take (i:=4) (oi:=_) (v:=?vb3) rfl (by kernel_rfl) (by kernel_rfl) (by kernel_rfl) (fun _ _ _ h=>h) (HH ⟨by rfl,?yb3⟩) hHeld ?rb3
    case yb3=>(intro w0 hSw;obtain⟨hSw0,hSw1⟩:=hSw;go_simp;try with_reducible rfl)
    (try simp only [HE,HA,HB,HC])
    refine wpAnyH_take (i:=5) (oi:=_) (v:=?vb4) rfl (by kernel_rfl) (by kernel_rfl) (by kernel_rfl) (fun _ _ _ h=>h) (HH ⟨by rfl,?yb4⟩) hHeld ?rb4
    case yb4=>(intro w0 hSw;obtain⟨hSw0,hSw1⟩:=hSw;go_simp;try with_reducible rfl)
    (try simp only [HE,HA,HB,HC])
    refine wpAnyH_take (i:=6) (oi:=_) (v:=?vb5) rfl (by kernel_rfl) (by kernel_rfl) (by kernel_rfl) (fun _ _ _ h=>h) (HH ⟨by rfl,?yb5⟩) hHeld ?rb5
    case yb5=>(intro w0 hSw;obtain⟨hSw0,hSw1⟩:=hSw;go_simp;try with_reducible rfl)
    (try simp only [HE,HA,HB,HC])
    refine wpAnyH_ready (rs:=[7]) (by kernel_rfl) (by simp) ?_
    refine HD (o:=_) rfl (fun K hK=>?_) ?_
    ·go_simp
     have hXp:=hX;have hX:=hX.alloc hX.size (.cells #[.slice none 0 0,.slice none 0 0,.int .i64 0,.int .i64 0] 33);have hq:(wq.alloc (.cells #[.slice none 0 0,.slice none 0 0,.int .i64 0,.int .i64 0] 33)).heap[wq.heap.size]?=some (.cells #[.slice none 0 0,.slice none 0 0,.int .i64 0,.int .i64 0] 33 (0,0)):=ac _ rfl;have hqge:w4b.heap.size≤wq.heap.size:=hXp.size;have hqb:∀b,ShS (.slice mA mn mc) (.slice mfA mfn mfc) yq b→wq.heap.size≠b:=fun b hb=>by have:=hmlt b hb;omega
     refine hK.out _ _ ?_ (fun hHeld=>?_)
     ·exact hcells.out _ hX
     clear hK K
     (try simp only [HE,HA,HB,HC])
     refine wpAnyH_ready (rs:=[8]) (by kernel_rfl) (by simp) ?_
     refine HD (o:=_) rfl (fun K hK=>?_) ?_
     ·obtain⟨g0,g1,g2,g3⟩:=aa hq
      obtain⟨j0,j1,j2,j3⟩:=aG hq
      go_simp
      have hX:=hXp.alloc hXp.size (.cells #[.slice mA mn mc,.slice mfA mfn mfc,.int .i64 R.2.2.1,.int .i64 R.2.2.2] 33);replace hq:(wq.alloc (.cells #[.slice mA mn mc,.slice mfA mfn mfc,.int .i64 R.2.2.1,.int .i64 R.2.2.2] 33)).heap[wq.heap.size]?=some (.cells #[.slice mA mn mc,.slice mfA mfn mfc,.int .i64 R.2.2.1,.int .i64 R.2.2.2] 33 (0,0)):=ac _ rfl;replace sm:=sm.below (be _ (.cells #[.slice mA mn mc,.slice mfA mfn mfc,.int .i64 R.2.2.1,.int .i64 R.2.2.2] 33));clear g0 g1 g2 g3 j0 j1 j2 j3;refine hK.out _ _ ?_ (fun hHeld=>?_)
      ·exact hcells.out _ hX
      clear hK K
      (try simp only [HE,HA,HB,HC])
      refine aL (by kernel_rfl) ?_
      go_simp
      have hql:=aB hq
      go_wp2
      go_meet
      case rel=>exact⟨_,rfl,rfl,⟨_,_,_,_,_,_,_,hq,sm,fun h=>hqb _ h rfl⟩,hqge,hql,hX⟩
     exact HG
    exact HG
   refine HD (o:=_) rfl (fun K hK=>?_) ?_
   ·go_simp
    have hXp:=hX;have hX:=hX.alloc hX.size (.cells #[.slice none 0 0,.slice none 0 0,.int .i64 0,.int .i64 0] 33);have hq:(wb.alloc (.cells #[.slice none 0 0,.slice none 0 0,.int .i64 0,.int .i64 0] 33)).heap[wb.heap.size]?=some (.cells #[.slice none 0 0,.slice none 0 0,.int .i64 0,.int .i64 0] 33 (0,0)):=ac _ rfl;have hqge:w4b.heap.size≤wb.heap.size:=hXp.size;refine hK.out _ _ ?_ (fun hHeld=>?_)
    ·exact hcells.out _ hX
    clear hK K
    (try simp only [HE,HA,HB,HC])
    refine wpAnyH_ready (rs:=[3]) (by kernel_rfl) (by simp) ?_
    refine HD (o:=_) rfl (fun K hK=>?_) ?_
    ·go_simp
     go_at_call 23
     refine(dm s hok x hx _ _ _ (sxX.out _ hX).rep (fun b hb=>((sxX.out _ hX).lt b hb).2)).mono ?_
     rintro e wq ⟨vq,rfl,⟨Vbq,Vfq,yq,sm⟩,bq⟩;have hXs:w4b.heap.size≤(wb.alloc (.cells #[.slice none 0 0,.slice none 0 0,.int .i64 0,.int .i64 0] 33)).heap.size:=hX.size;have hX:=hX.trans (bq.mono hX.size);have hqX:=aB hq;replace hq:=Below.some bq hq;rw [hRH.out] at sm;rw [hBoH.out];obtain rfl:=sm.val;obtain⟨mA,mn,mc,rfl⟩:=aU sm.box;obtain⟨mfA,mfn,mfc,rfl⟩:=am sm.fms.own;have hmlt:=sm.lt;have hqb:∀b,ShS (.slice mA mn mc) (.slice mfA mfn mfc) yq b→wb.heap.size≠b:=fun b hb=>by have:=hmlt b hb;omega
     have smb:∀b,ShS (.slice mA mn mc) (.slice mfA mfn mfc) yq b→w4b.heap.size≤b:=fun b hb=>by have:=(hmlt b hb).1;omega
     replace sm:ShopAt wq w4b.heap.size _ _ _ yq R:=⟨sm.val,sm.box,fun b hb=>smb b (.inl hb),sm.fms.base hXs,sm.dis⟩
     clear bq
     go_wp2_with fail
     refine hK.out _ _ ?_ (fun hHeld=>?_)
     ·exact hcells.out _ hX
     clear hK K
     (try simp only [HE,HA,HB,HC])
     refine wpAnyH_take (i:=4) (oi:=_) (v:=?vb6) rfl (by kernel_rfl) (by kernel_rfl) (by kernel_rfl) (fun _ _ _ h=>h) (HH ⟨by rfl,?yb6⟩) hHeld ?rb6
     case yb6=>(intro w0 hSw;obtain⟨hSw0,hSw1⟩:=hSw;go_simp;try with_reducible rfl)
     (try simp only [HE,HA,HB,HC])
     refine wpAnyH_take (i:=5) (oi:=_) (v:=?vb7) rfl (by kernel_rfl) (by kernel_rfl) (by kernel_rfl) (fun _ _ _ h=>h) (HH ⟨by rfl,?yb7⟩) hHeld ?rb7
     case yb7=>(intro w0 hSw;obtain⟨hSw0,hSw1⟩:=hSw;go_simp;try with_reducible rfl)
     (try simp only [HE,HA,HB,HC])
     refine wpAnyH_take (i:=6) (oi:=_) (v:=?vb8) rfl (by kernel_rfl) (by kernel_rfl) (by kernel_rfl) (fun _ _ _ h=>h) (HH ⟨by rfl,?yb8⟩) hHeld ?rb8
     case yb8=>(intro w0 hSw;obtain⟨hSw0,hSw1⟩:=hSw;go_simp;try with_reducible rfl)
     (try simp only [HE,HA,HB,HC])
     refine wpAnyH_ready (rs:=[8]) (by kernel_rfl) (by simp) ?_
     refine HD (o:=_) rfl (fun K hK=>?_) ?_
     ·obtain⟨g0,g1,g2,g3⟩:=aa hq
      obtain⟨j0,j1,j2,j3⟩:=aG hq
      go_simp
      have hX:=bd (.slice mA mn mc) (.slice mfA mfn mfc) (.int .i64 R.2.2.1) (.int .i64 R.2.2.2) hX hqge;replace hq:=aD (.slice mA mn mc) (.slice mfA mfn mfc) (.int .i64 R.2.2.1) (.int .i64 R.2.2.2) hq;replace sm:=sm.set4 (.slice mA mn mc) (.slice mfA mfn mfc) (.int .i64 R.2.2.1) (.int .i64 R.2.2.2) hqb;clear g0 g1 g2 g3 j0 j1 j2 j3;generalize ((((wq.setCell ⟨wb.heap.size,0,none⟩ (.slice mA mn mc)).setCell ⟨wb.heap.size,1,none⟩ (.slice mfA mfn mfc)).setCell ⟨wb.heap.size,2,none⟩ (.int .i64 R.2.2.1)).setCell ⟨wb.heap.size,3,none⟩ (.int .i64 R.2.2.2))=w8 at *;refine hK.out _ _ ?_ (fun hHeld=>?_)
      ·exact hcells.out _ hX
      clear hK K
      (try simp only [HE,HA,HB,HC])
      refine aL (by kernel_rfl) ?_
      go_simp
      have hql:=aB hq
      go_wp2
      go_meet
      case rel=>exact⟨_,rfl,rfl,⟨_,_,_,_,_,_,_,hq,sm,fun h=>hqb _ h rfl⟩,hqge,hql,hX⟩
     exact HG
    exact HG
   exact HG
  refine HD (o:=_) rfl (fun K hK=>?_) ?_
  ·go_simp
   have hXp:=hX;have hX:=hX.alloc hX.size (.cells #[.slice none 0 0,.slice none 0 0,.int .i64 0,.int .i64 0] 33);have hq:(W0.alloc (.cells #[.slice none 0 0,.slice none 0 0,.int .i64 0,.int .i64 0] 33)).heap[W0.heap.size]?=some (.cells #[.slice none 0 0,.slice none 0 0,.int .i64 0,.int .i64 0] 33 (0,0)):=ac _ rfl;have hqge:w4b.heap.size≤W0.heap.size:=hXp.size;refine hK.out _ _ ?_ (fun hHeld=>?_)
   ·exact hcells.out _ hX
   clear hK K
   (try simp only [HE,HA,HB,HC])
   refine wpAnyH_ready (rs:=[2]) (by kernel_rfl) (by simp) ?_
   refine HD (o:=_) rfl (fun K hK=>?_) ?_
   ·go_simp
    go_at_call 22
    refine(cm x).mono ?_
    rintro e wb ⟨rfl,bq⟩;have hXs:w4b.heap.size≤(W0.alloc (.cells #[.slice none 0 0,.slice none 0 0,.int .i64 0,.int .i64 0] 33)).heap.size:=hX.size;have hX:=hX.trans (bq.mono hX.size);have hqX:=aB hq;replace hq:=Below.some bq hq;clear bq
    go_wp2_with fail
    refine hK.out _ _ ?_ (fun hHeld=>?_)
    ·exact hcells.out _ hX
    clear hK K
    (try simp only [HE,HA,HB,HC])
    refine wpAnyH_ready (rs:=[3]) (by kernel_rfl) (by simp) ?_
    refine HD (o:=_) rfl (fun K hK=>?_) ?_
    ·go_simp
     go_at_call 23
     refine(dm s hok x hx _ _ _ (sxX.out _ hX).rep (fun b hb=>((sxX.out _ hX).lt b hb).2)).mono ?_
     rintro e wq ⟨vq,rfl,⟨Vbq,Vfq,yq,sm⟩,bq⟩;have hXs:w4b.heap.size≤wb.heap.size:=hX.size;have hX:=hX.trans (bq.mono hX.size);have hqX:=aB hq;replace hq:=Below.some bq hq;rw [hRH.out] at sm;rw [hBoH.out];obtain rfl:=sm.val;obtain⟨mA,mn,mc,rfl⟩:=aU sm.box;obtain⟨mfA,mfn,mfc,rfl⟩:=am sm.fms.own;have hmlt:=sm.lt;have hqb:∀b,ShS (.slice mA mn mc) (.slice mfA mfn mfc) yq b→W0.heap.size≠b:=fun b hb=>by have:=hmlt b hb;omega
     have smb:∀b,ShS (.slice mA mn mc) (.slice mfA mfn mfc) yq b→w4b.heap.size≤b:=fun b hb=>by have:=(hmlt b hb).1;omega
     replace sm:ShopAt wq w4b.heap.size _ _ _ yq R:=⟨sm.val,sm.box,fun b hb=>smb b (.inl hb),sm.fms.base hXs,sm.dis⟩
     clear bq
     go_wp2_with fail
     refine hK.out _ _ ?_ (fun hHeld=>?_)
     ·exact hcells.out _ hX
     clear hK K
     (try simp only [HE,HA,HB,HC])
     refine wpAnyH_take (i:=4) (oi:=_) (v:=?vb9) rfl (by kernel_rfl) (by kernel_rfl) (by kernel_rfl) (fun _ _ _ h=>h) (HH ⟨by rfl,?yb9⟩) hHeld ?rb9
     case yb9=>(intro w0 hSw;obtain⟨hSw0,hSw1⟩:=hSw;go_simp;try with_reducible rfl)
     (try simp only [HE,HA,HB,HC])
     refine wpAnyH_take (i:=5) (oi:=_) (v:=?vb10) rfl (by kernel_rfl) (by kernel_rfl) (by kernel_rfl) (fun _ _ _ h=>h) (HH ⟨by rfl,?yb10⟩) hHeld ?rb10
     case yb10=>(intro w0 hSw;obtain⟨hSw0,hSw1⟩:=hSw;go_simp;try with_reducible rfl)
     (try simp only [HE,HA,HB,HC])
     refine wpAnyH_take (i:=6) (oi:=_) (v:=?vb11) rfl (by kernel_rfl) (by kernel_rfl) (by kernel_rfl) (fun _ _ _ h=>h) (HH ⟨by rfl,?yb11⟩) hHeld ?rb11
     case yb11=>(intro w0 hSw;obtain⟨hSw0,hSw1⟩:=hSw;go_simp;try with_reducible rfl)
     (try simp only [HE,HA,HB,HC])
     refine wpAnyH_ready (rs:=[8]) (by kernel_rfl) (by simp) ?_
     refine HD (o:=_) rfl (fun K hK=>?_) ?_
     ·obtain⟨g0,g1,g2,g3⟩:=aa hq
      obtain⟨j0,j1,j2,j3⟩:=aG hq
      go_simp
      have hX:=bd (.slice mA mn mc) (.slice mfA mfn mfc) (.int .i64 R.2.2.1) (.int .i64 R.2.2.2) hX hqge;replace hq:=aD (.slice mA mn mc) (.slice mfA mfn mfc) (.int .i64 R.2.2.1) (.int .i64 R.2.2.2) hq;replace sm:=sm.set4 (.slice mA mn mc) (.slice mfA mfn mfc) (.int .i64 R.2.2.1) (.int .i64 R.2.2.2) hqb;clear g0 g1 g2 g3 j0 j1 j2 j3;generalize ((((wq.setCell ⟨W0.heap.size,0,none⟩ (.slice mA mn mc)).setCell ⟨W0.heap.size,1,none⟩ (.slice mfA mfn mfc)).setCell ⟨W0.heap.size,2,none⟩ (.int .i64 R.2.2.1)).setCell ⟨W0.heap.size,3,none⟩ (.int .i64 R.2.2.2))=w8 at *;refine hK.out _ _ ?_ (fun hHeld=>?_)
      ·exact hcells.out _ hX
      clear hK K
      (try simp only [HE,HA,HB,HC])
      refine aL (by kernel_rfl) ?_
      go_simp
      have hql:=aB hq
      go_wp2
      go_meet
      case rel=>exact⟨_,rfl,rfl,⟨_,_,_,_,_,_,_,hq,sm,fun h=>hqb _ h rfl⟩,hqge,hql,hX⟩
     exact HG
    exact HG
   exact HG
  exact HG
 obtain⟨q10,rfl,rfl,⟨gA,gn,gk,gfA,gfn,gfk,yG,b7x,sG,hnG⟩,hqge10,hql10,bq⟩:=hcut;generalize wc=w5 at *;clear hcells sxX hsxl hbsl;have b5:=bq;clear bq;have fG:=sG.lt;replace bx:=Below.some b5 bx;replace bs:=Below.some b5 bs;replace b4x:=Below.some b5 b4x;replace b6x:=Below.some b5 b6x;replace sW:=sW.below b5;replace sx:=sx.below b5;have B5:=bm B4 b5 B4.size;have hs5:=b5.size;clear b5;have hc6:=ju R hRok sG.rep (fun b hb=>(sG.lt b hb).2) sW.rep (fun b hb=>(sW.lt b hb).2);obtain⟨cg0,cg1,cg2,cg3⟩:=aa b7x;obtain⟨cw0,cw1,cw2,cw3⟩:=aa b4x
 go_wp2_with (go_at_call 13;refine hc6.mono ?_)
 rintro e w6 ⟨rfl,b6⟩;clear hc6 cg0 cg1 cg2 cg3 cw0 cw1 cw2 cw3;replace bx:=Below.some b6 bx;replace bs:=Below.some b6 bs;replace b4x:=Below.some b6 b4x;replace b6x:=Below.some b6 b6x;replace b7x:=Below.some b6 b7x;replace sW:=sW.below b6;replace sx:=sx.below b6;replace sG:=sG.below b6;have B6:=bm B5 b6 B5.size;have hs6:=b6.size;clear b6
 go_wp2
 have b6d:=ab w6;have bx6:=Below.some b6d bx;have six6:=Below.some b6d b6x;have B6d:=bm B6 b6d B6.size;obtain⟨cb0,cb1,cb2,cb3⟩:=aa bx6;obtain⟨cs0,cs1,cs2,cs3⟩:=aa six6;have hc7:=fM s hok _ w6.drew F (rep B6d) (hFW B6d)
 go_region_held3 (fun w'=>w'.cell? ⟨w.heap.size,0,none⟩=some (.slice A n c)∧w'.cell? ⟨w.heap.size,1,none⟩=some (.slice A' n' c')∧w'.cell? ⟨w.heap.size,2,none⟩=some (.int .i64 s.2.2.1)∧w'.cell? ⟨w.heap.size,3,none⟩=some (.int .i64 s.2.2.2)∧w'.cell? ⟨w4.heap.size,0,none⟩=some (.slice bA bn bc)∧w'.cell? ⟨w4.heap.size,1,none⟩=some (.slice (some ⟨g,0,none⟩) s.2.1.length cap)∧w'.cell? ⟨w4.heap.size,2,none⟩=some (.int .i64 s.2.2.1)∧w'.cell? ⟨w4.heap.size,3,none⟩=some (.int .i64 s.2.2.2)) (first | (refine⟨?_,?_,?_,?_,?_,?_,?_,?_⟩<;>assumption) | go_keep)
  (first
   | (go_at_call 10;refine hc7.mono ?_;rintro e w7 ⟨vz,Vz,gz,capz,yz,rfl,sz,b7⟩;obtain⟨cc0,cc1,cc2,cc3⟩:=aa (Below.some b7 bx6);obtain⟨ct0,ct1,ct2,ct3⟩:=aa (Below.some b7 six6))
   | (go_at_call 13;refine(ju s hok ((sx.below b6d).below b7).rep (fun b hb=>(((sx.below b6d).below b7).lt b hb).2) sz.rep (fun b hb=>(sz.lt b hb).2)).mono ?_;rintro e w8 ⟨rfl,b8⟩;obtain⟨cu0,cu1,cu2,cu3⟩:=aa (Below.some b8 (Below.some b7 bx6));obtain⟨cv0,cv1,cv2,cv3⟩:=aa (Below.some b8 (Below.some b7 six6))))
 have K8:Below w6.heap.size w6 w8:=(b6d.trans b7).trans (b8.mono b7.size);clear hc7 b7 b8 b6d bx6 six6 B6d sz cb0 cb1 cb2 cb3 cs0 cs1 cs2 cs3 cc0 cc1 cc2 cc3 ct0 ct1 ct2 ct3 cu0 cu1 cu2 cu3 cv0 cv1 cv2 cv3;have b8:=K8;replace bx:=Below.some b8 bx;replace bs:=Below.some b8 bs;replace b4x:=Below.some b8 b4x;replace b6x:=Below.some b8 b6x;replace b7x:=Below.some b8 b7x;replace sW:=sW.below b8;replace sx:=sx.below b8;replace sG:=sG.below b8;have B8:=bm B6 b8 B6.size;have hs8:=b8.size;clear b8 K8;have hl1:=hok.1.1;have htn:=iC s.2.1;have bl7:=aB b7x;obtain⟨cs0,cs1,cs2,cs3⟩:=aa b6x;have hc9:=pN s 1 hok (by omega) (by omega) w8 _ _ _ _ ys sx
 go_wp2_with (go_at_call 14;refine hc9.mono ?_)
 rintro e w9 ⟨rfl,sx9,x9⟩;have fx':∀b,ShS (.slice bA bn bc) (.slice (some ⟨g,0,none⟩) s.2.1.length cap) ys b→w3.heap.size≤b∧b<w4.heap.size:=fun b hb=>by have:=fx b hb;omega
 have fG':∀b,ShS (.slice gA gn gk) (.slice gfA gfn gfk) yG b→w4b.heap.size≤b∧b<w5.heap.size:=fun b hb=>by have:=fG b hb;omega
 have fW':∀b,ShS (.slice wA wn wk) (.slice wfA wfn wfk) yW b→w2.heap.size≤b∧b<w3.heap.size:=fun b hb=>by have:=fW b hb;omega
 replace bx:=KeptX.some x9 bx fun h=>by have:=fx' _ h;omega
 replace bs:=KeptX.some x9 bs fun h=>by have:=fx' _ h;omega
 replace b4x:=KeptX.some x9 b4x fun h=>by have:=fx' _ h;omega
 replace b7x:=KeptX.some x9 b7x fun h=>by have:=fx' _ h;omega
 replace sW:=sW.keptX x9 fun b hb h=>by have:=fW' b hb;have:=fx' b h;omega
 replace sG:=sG.keptX x9 fun b hb h=>by have:=fG' b hb;have:=fx' b h;omega
 have B9:Below w.heap.size w w9:=B8.trans (x9.below (fun b hb=>by have:=fx' b hb;omega) B8.size);have hs9:=x9.size;clear hc9 x9 cs0 cs1 cs2 cs3 sx b6x sx9;have hk9:¬(1+4*(s.1.length:Int)+bZ s.2.1<0):=by omega
 have hc10:=ju R hRok sG.rep (fun b hb=>(sG.lt b hb).2) sW.rep (fun b hb=>(sW.lt b hb).2);obtain⟨cg0,cg1,cg2,cg3⟩:=aa b7x;obtain⟨cw0,cw1,cw2,cw3⟩:=aa b4x
 go_wp2_with (go_at_call 13;refine hc10.mono ?_)
 rintro e w10 ⟨rfl,b10⟩;clear hc10 cg0 cg1 cg2 cg3 cw0 cw1 cw2 cw3;replace bx:=Below.some b10 bx;replace bs:=Below.some b10 bs;replace b4x:=Below.some b10 b4x;replace b7x:=Below.some b10 b7x;replace sW:=sW.below b10;replace sG:=sG.below b10;have B10:=bm B9 b10 B9.size;have hs10:=b10.size;clear b10;have hc11:=pN R 1 hRok (by omega) (by omega) w10 _ _ _ _ yG sG;obtain⟨cg0,cg1,cg2,cg3⟩:=aa b7x
 go_wp2_with (go_at_call 14;refine hc11.mono ?_)
 rintro e w11 ⟨rfl,sG11,x11⟩;replace bx:=KeptX.some x11 bx fun h=>by have:=fG' _ h;omega
 replace b4x:=KeptX.some x11 b4x fun h=>by have:=fG' _ h;omega
 replace b7x:=KeptX.some x11 b7x hnG;replace bs:=KeptX.some x11 bs fun h=>by have:=fG' _ h;omega
 replace sW:=sW.keptX x11 fun b hb h=>by have:=fW' b hb;have:=fG' b h;omega
 have B11:Below w.heap.size w w11:=B10.trans (x11.below (fun b hb=>by have:=fG' b hb;omega) B10.size);have hs11:=x11.size;clear hc11 x11 cg0 cg1 cg2 cg3 sG;have hc12:=nl R 1 hRok (by omega) (by omega) sG11.rep (fun b hb=>(sG11.lt b hb).2);obtain⟨cg0,cg1,cg2,cg3⟩:=aa b7x
 go_wp2_with (go_at_call 19;refine hc12.mono ?_)
 rintro e w12 ⟨rfl,b12⟩;clear hc12 cg0 cg1 cg2 cg3;replace bx:=Below.some b12 bx;replace bs:=Below.some b12 bs;replace b4x:=Below.some b12 b4x;replace b7x:=Below.some b12 b7x;replace sW:=sW.below b12;replace sG11:=sG11.below b12;have B12:=bm B11 b12 B11.size;have hs12:=b12.size;clear b12;have hRn:=iC R.2.1;have hq:¬(1+4*(R.1.length:Int)+bZ R.2.1<0):=by omega
 have hbxl:=aB bx;have hbsl:=aB bs;have hcells:Hid (∀X:World,Below w12.heap.size w12 X→(X.cell? ⟨w.heap.size,0,none⟩=some (.slice A n c)∧X.cell? ⟨w.heap.size,1,none⟩=some (.slice A' n' c')∧X.cell? ⟨w.heap.size,2,none⟩=some (.int .i64 s.2.2.1)∧X.cell? ⟨w.heap.size,3,none⟩=some (.int .i64 s.2.2.2))∧(X.cell? ⟨w.heap.size+1,0,none⟩=some (.int .i64 x.1)∧X.cell? ⟨w.heap.size+1,1,none⟩=some (.int .i64 x.2.1)∧X.cell? ⟨w.heap.size+1,2,none⟩=some (.string x.2.2.1)∧X.cell? ⟨w.heap.size+1,3,none⟩=some (.int .i64 x.2.2.2))):=fun X hX=>⟨aa ((hX.block _ hbxl).trans bx),aa ((hX.block _ hbsl).trans bs)⟩
 have repX:Hid (∀X:World,Below w12.heap.size w12 X→aQ X F (sp s) (.agg #[.slice A n c,.slice A' n' c',.int .i64 s.2.2.1,.int .i64 s.2.2.2])):=fun X hX=>rep (B12.trans (hX.mono B12.size))
 have hFX:Hid (∀X:World,Below w12.heap.size w12 X→∀b,F b→b<X.heap.size):=fun X hX=>hFW (B12.trans (hX.mono B12.size))
 clear hq
 go_upto_region 27 with fail
 go_cut [14,15] from 16 (fun tq tb wc=>∃q,tq = .pointer (some ⟨q,0,none⟩)∧tb = .bool bo∧Gr w12 wc R q)
 case first =>
  have hX0:Below w12.heap.size w12 w12.drew:=ab w12;have hSd:=hcells.out _ hX0;refine bO (l:=[_,_,_,_,_,_,_,_,_,_]) (o:=_) (S:=fun w'=>(w'.cell? ⟨w.heap.size,0,none⟩=some (.slice A n c)∧w'.cell? ⟨w.heap.size,1,none⟩=some (.slice A' n' c')∧w'.cell? ⟨w.heap.size,2,none⟩=some (.int .i64 s.2.2.1)∧w'.cell? ⟨w.heap.size,3,none⟩=some (.int .i64 s.2.2.2))∧(w'.cell? ⟨w.heap.size+1,0,none⟩=some (.int .i64 x.1)∧w'.cell? ⟨w.heap.size+1,1,none⟩=some (.int .i64 x.2.1)∧w'.cell? ⟨w.heap.size+1,2,none⟩=some (.string x.2.2.1)∧w'.cell? ⟨w.heap.size+1,3,none⟩=some (.int .i64 x.2.2.2))) (by kernel_rfl) (by kernel_rfl) hSd (fun hHeld=>?_)
  change wpAnyH _ _ _ _ _ 10 (HI 10 false) _ _
  generalize w12.drew=W0 at *;have hX:=hX0;refine wpAnyH_take (i:=0) (oi:=_) (v:=?vc1) rfl (by kernel_rfl) (by kernel_rfl) (by kernel_rfl) (fun _ _ _ h=>h) (HH ⟨by rfl,?yc1⟩) hHeld ?rc1
  case yc1=>(intro w0 hSw;obtain⟨hSw0,hSw1⟩:=hSw;go_simp;try with_reducible rfl)
  (try simp only [HE,HA,HB,HC])
  refine wpAnyH_take (i:=2) (oi:=_) (v:=?vc2) rfl (by kernel_rfl) (by kernel_rfl) (by kernel_rfl) (fun _ _ _ h=>h) (HH ⟨by rfl,?yc2⟩) hHeld ?rc2
  case yc2=>(intro w0 hSw;obtain⟨hSw0,hSw1⟩:=hSw;go_simp;try with_reducible rfl)
  (try simp only [HE,HA,HB,HC])
  refine wpAnyH_ready (rs:=[1,8]) (by kernel_rfl) (by simp) ?_
  refine HD (o:=_) rfl (fun K hK=>?_) ?_
  ·go_simp
   go_at_call 10
   refine(fM s hok _ _ F (repX.out _ hX) (hFX.out _ hX)).mono ?_
   rintro e wa ⟨va,Va,ga,capa,ya,rfl,sa,bq⟩;have hXs:w12.heap.size≤W0.heap.size:=hX.size;have hX:=hX.trans (bq.mono hX.size);clear bq
   go_wp2_with fail
   refine hK.out _ _ ?_ (fun hHeld=>?_)
   ·exact hcells.out _ hX
   clear hK K
   (try simp only [HE,HA,HB,HC])
   refine wpAnyH_ready (rs:=[3,8]) (by kernel_rfl) (by simp) ?_
   refine HD (o:=_) rfl (fun K hK=>?_) ?_
   ·go_simp
    go_at_call 22
    refine(cm x).mono ?_
    rintro e wb ⟨rfl,bq⟩;have hXs:w12.heap.size≤wa.heap.size:=hX.size;have hX:=hX.trans (bq.mono hX.size);replace sa:=sa.below bq;clear bq
    go_wp2_with fail
    refine hK.out _ _ ?_ (fun hHeld=>?_)
    ·exact hcells.out _ hX
    clear hK K
    (try simp only [HE,HA,HB,HC])
    refine wpAnyH_ready (rs:=[4,8]) (by kernel_rfl) (by simp) ?_
    refine HD (o:=_) rfl (fun K hK=>?_) ?_
    ·go_simp
     go_at_call 23
     refine(dm s hok x hx _ _ _ sa.rep (fun b hb=>(sa.lt b hb).2)).mono ?_
     rintro e wq ⟨vq,rfl,⟨Vbq,Vfq,yq,sm⟩,bq⟩;have hXs:w12.heap.size≤wb.heap.size:=hX.size;have hX:=hX.trans (bq.mono hX.size);replace sa:=sa.below bq;rw [hRH.out] at sm;rw [hBoH.out];obtain rfl:=sm.val;obtain⟨mA,mn,mc,rfl⟩:=aU sm.box;obtain⟨mfA,mfn,mfc,rfl⟩:=am sm.fms.own;have hmlt:=sm.lt;have smb:∀b,ShS (.slice mA mn mc) (.slice mfA mfn mfc) yq b→w12.heap.size≤b:=fun b hb=>by have:=(hmlt b hb).1;omega
     replace sm:ShopAt wq w12.heap.size _ _ _ yq R:=⟨sm.val,sm.box,fun b hb=>smb b (.inl hb),sm.fms.base hXs,sm.dis⟩
     clear bq
     go_wp2_with fail
     refine hK.out _ _ ?_ (fun hHeld=>?_)
     ·exact hcells.out _ hX
     clear hK K
     (try simp only [HE,HA,HB,HC])
     refine wpAnyH_take (i:=5) (oi:=_) (v:=?vc3) rfl (by kernel_rfl) (by kernel_rfl) (by kernel_rfl) (fun _ _ _ h=>h) (HH ⟨by rfl,?yc3⟩) hHeld ?rc3
     case yc3=>(intro w0 hSw;obtain⟨hSw0,hSw1⟩:=hSw;go_simp;try with_reducible rfl)
     (try simp only [HE,HA,HB,HC])
     refine wpAnyH_take (i:=6) (oi:=_) (v:=?vc4) rfl (by kernel_rfl) (by kernel_rfl) (by kernel_rfl) (fun _ _ _ h=>h) (HH ⟨by rfl,?yc4⟩) hHeld ?rc4
     case yc4=>(intro w0 hSw;obtain⟨hSw0,hSw1⟩:=hSw;go_simp;try with_reducible rfl)
     (try simp only [HE,HA,HB,HC])
     refine wpAnyH_take (i:=7) (oi:=_) (v:=?vc5) rfl (by kernel_rfl) (by kernel_rfl) (by kernel_rfl) (fun _ _ _ h=>h) (HH ⟨by rfl,?yc5⟩) hHeld ?rc5
     case yc5=>(intro w0 hSw;obtain⟨hSw0,hSw1⟩:=hSw;go_simp;try with_reducible rfl)
     (try simp only [HE,HA,HB,HC])
     refine wpAnyH_ready (rs:=[8]) (by kernel_rfl) (by simp) ?_
     refine HD (o:=_) rfl (fun K hK=>?_) ?_
     ·go_simp
      have hXp:=hX;have hX:=hX.alloc hX.size (.cells #[.slice none 0 0,.slice none 0 0,.int .i64 0,.int .i64 0] 33);have hq:(wq.alloc (.cells #[.slice none 0 0,.slice none 0 0,.int .i64 0,.int .i64 0] 33)).heap[wq.heap.size]?=some (.cells #[.slice none 0 0,.slice none 0 0,.int .i64 0,.int .i64 0] 33 (0,0)):=ac _ rfl;have hqge:w12.heap.size≤wq.heap.size:=hXp.size;have hqb:∀b,ShS (.slice mA mn mc) (.slice mfA mfn mfc) yq b→wq.heap.size≠b:=fun b hb=>by have:=hmlt b hb;omega
      refine hK.out _ _ ?_ (fun hHeld=>?_)
      ·exact hcells.out _ hX
      clear hK K
      (try simp only [HE,HA,HB,HC])
      refine wpAnyH_ready (rs:=[9]) (by kernel_rfl) (by simp) ?_
      refine HD (o:=_) rfl (fun K hK=>?_) ?_
      ·obtain⟨g0,g1,g2,g3⟩:=aa hq
       obtain⟨j0,j1,j2,j3⟩:=aG hq
       go_simp
       have hX:=hXp.alloc hXp.size (.cells #[.slice mA mn mc,.slice mfA mfn mfc,.int .i64 R.2.2.1,.int .i64 R.2.2.2] 33);replace hq:(wq.alloc (.cells #[.slice mA mn mc,.slice mfA mfn mfc,.int .i64 R.2.2.1,.int .i64 R.2.2.2] 33)).heap[wq.heap.size]?=some (.cells #[.slice mA mn mc,.slice mfA mfn mfc,.int .i64 R.2.2.1,.int .i64 R.2.2.2] 33 (0,0)):=ac _ rfl;replace sm:=sm.below (be _ (.cells #[.slice mA mn mc,.slice mfA mfn mfc,.int .i64 R.2.2.1,.int .i64 R.2.2.2] 33));clear g0 g1 g2 g3 j0 j1 j2 j3;refine hK.out _ _ ?_ (fun hHeld=>?_)
       ·exact hcells.out _ hX
       clear hK K
       (try simp only [HE,HA,HB,HC])
       refine aL (by kernel_rfl) ?_
       go_simp
       have hql:=aB hq
       go_wp2
       go_meet
       case rel=>exact⟨_,rfl,rfl,⟨_,_,_,_,_,_,_,hq,sm,fun h=>hqb _ h rfl⟩,hqge,hql,hX⟩
      exact HG
     exact HG
    refine HD (o:=_) rfl (fun K hK=>?_) ?_
    ·go_simp
     have hXp:=hX;have hX:=hX.alloc hX.size (.cells #[.slice none 0 0,.slice none 0 0,.int .i64 0,.int .i64 0] 33);have hq:(wb.alloc (.cells #[.slice none 0 0,.slice none 0 0,.int .i64 0,.int .i64 0] 33)).heap[wb.heap.size]?=some (.cells #[.slice none 0 0,.slice none 0 0,.int .i64 0,.int .i64 0] 33 (0,0)):=ac _ rfl;have hqge:w12.heap.size≤wb.heap.size:=hXp.size;replace sa:=sa.below (be _ (.cells #[.slice none 0 0,.slice none 0 0,.int .i64 0,.int .i64 0] 33));refine hK.out _ _ ?_ (fun hHeld=>?_)
     ·exact hcells.out _ hX
     clear hK K
     (try simp only [HE,HA,HB,HC])
     refine wpAnyH_ready (rs:=[4]) (by kernel_rfl) (by simp) ?_
     refine HD (o:=_) rfl (fun K hK=>?_) ?_
     ·go_simp
      go_at_call 23
      refine(dm s hok x hx _ _ _ sa.rep (fun b hb=>(sa.lt b hb).2)).mono ?_
      rintro e wq ⟨vq,rfl,⟨Vbq,Vfq,yq,sm⟩,bq⟩;have hXs:w12.heap.size≤(wb.alloc (.cells #[.slice none 0 0,.slice none 0 0,.int .i64 0,.int .i64 0] 33)).heap.size:=hX.size;have hX:=hX.trans (bq.mono hX.size);have hqX:=aB hq;replace hq:=Below.some bq hq;replace sa:=sa.below bq;rw [hRH.out] at sm;rw [hBoH.out];obtain rfl:=sm.val;obtain⟨mA,mn,mc,rfl⟩:=aU sm.box;obtain⟨mfA,mfn,mfc,rfl⟩:=am sm.fms.own;have hmlt:=sm.lt;have hqb:∀b,ShS (.slice mA mn mc) (.slice mfA mfn mfc) yq b→wb.heap.size≠b:=fun b hb=>by have:=hmlt b hb;omega
      have smb:∀b,ShS (.slice mA mn mc) (.slice mfA mfn mfc) yq b→w12.heap.size≤b:=fun b hb=>by have:=(hmlt b hb).1;omega
      replace sm:ShopAt wq w12.heap.size _ _ _ yq R:=⟨sm.val,sm.box,fun b hb=>smb b (.inl hb),sm.fms.base hXs,sm.dis⟩
      clear bq
      go_wp2_with fail
      refine hK.out _ _ ?_ (fun hHeld=>?_)
      ·exact hcells.out _ hX
      clear hK K
      (try simp only [HE,HA,HB,HC])
      refine wpAnyH_take (i:=5) (oi:=_) (v:=?vc6) rfl (by kernel_rfl) (by kernel_rfl) (by kernel_rfl) (fun _ _ _ h=>h) (HH ⟨by rfl,?yc6⟩) hHeld ?rc6
      case yc6=>(intro w0 hSw;obtain⟨hSw0,hSw1⟩:=hSw;go_simp;try with_reducible rfl)
      (try simp only [HE,HA,HB,HC])
      refine wpAnyH_take (i:=6) (oi:=_) (v:=?vc7) rfl (by kernel_rfl) (by kernel_rfl) (by kernel_rfl) (fun _ _ _ h=>h) (HH ⟨by rfl,?yc7⟩) hHeld ?rc7
      case yc7=>(intro w0 hSw;obtain⟨hSw0,hSw1⟩:=hSw;go_simp;try with_reducible rfl)
      (try simp only [HE,HA,HB,HC])
      refine wpAnyH_take (i:=7) (oi:=_) (v:=?vc8) rfl (by kernel_rfl) (by kernel_rfl) (by kernel_rfl) (fun _ _ _ h=>h) (HH ⟨by rfl,?yc8⟩) hHeld ?rc8
      case yc8=>(intro w0 hSw;obtain⟨hSw0,hSw1⟩:=hSw;go_simp;try with_reducible rfl)
      (try simp only [HE,HA,HB,HC])
      refine wpAnyH_ready (rs:=[9]) (by kernel_rfl) (by simp) ?_
      refine HD (o:=_) rfl (fun K hK=>?_) ?_
      ·obtain⟨g0,g1,g2,g3⟩:=aa hq
       obtain⟨j0,j1,j2,j3⟩:=aG hq
       go_simp
       have hX:=bd (.slice mA mn mc) (.slice mfA mfn mfc) (.int .i64 R.2.2.1) (.int .i64 R.2.2.2) hX hqge;replace hq:=aD (.slice mA mn mc) (.slice mfA mfn mfc) (.int .i64 R.2.2.1) (.int .i64 R.2.2.2) hq;replace sm:=sm.set4 (.slice mA mn mc) (.slice mfA mfn mfc) (.int .i64 R.2.2.1) (.int .i64 R.2.2.2) hqb;clear g0 g1 g2 g3 j0 j1 j2 j3;generalize ((((wq.setCell ⟨wb.heap.size,0,none⟩ (.slice mA mn mc)).setCell ⟨wb.heap.size,1,none⟩ (.slice mfA mfn mfc)).setCell ⟨wb.heap.size,2,none⟩ (.int .i64 R.2.2.1)).setCell ⟨wb.heap.size,3,none⟩ (.int .i64 R.2.2.2))=w8 at *;refine hK.out _ _ ?_ (fun hHeld=>?_)
       ·exact hcells.out _ hX
       clear hK K
       (try simp only [HE,HA,HB,HC])
       refine aL (by kernel_rfl) ?_
       go_simp
       have hql:=aB hq
       go_wp2
       go_meet
       case rel=>exact⟨_,rfl,rfl,⟨_,_,_,_,_,_,_,hq,sm,fun h=>hqb _ h rfl⟩,hqge,hql,hX⟩
      exact HG
     exact HG
    exact HG
   refine HD (o:=_) rfl (fun K hK=>?_) ?_
   ·go_simp
    have hXp:=hX;have hX:=hX.alloc hX.size (.cells #[.slice none 0 0,.slice none 0 0,.int .i64 0,.int .i64 0] 33);have hq:(wa.alloc (.cells #[.slice none 0 0,.slice none 0 0,.int .i64 0,.int .i64 0] 33)).heap[wa.heap.size]?=some (.cells #[.slice none 0 0,.slice none 0 0,.int .i64 0,.int .i64 0] 33 (0,0)):=ac _ rfl;have hqge:w12.heap.size≤wa.heap.size:=hXp.size;replace sa:=sa.below (be _ (.cells #[.slice none 0 0,.slice none 0 0,.int .i64 0,.int .i64 0] 33));refine hK.out _ _ ?_ (fun hHeld=>?_)
    ·exact hcells.out _ hX
    clear hK K
    (try simp only [HE,HA,HB,HC])
    refine wpAnyH_ready (rs:=[3]) (by kernel_rfl) (by simp) ?_
    refine HD (o:=_) rfl (fun K hK=>?_) ?_
    ·go_simp
     go_at_call 22
     refine(cm x).mono ?_
     rintro e wb ⟨rfl,bq⟩;have hXs:w12.heap.size≤(wa.alloc (.cells #[.slice none 0 0,.slice none 0 0,.int .i64 0,.int .i64 0] 33)).heap.size:=hX.size;have hX:=hX.trans (bq.mono hX.size);have hqX:=aB hq;replace hq:=Below.some bq hq;replace sa:=sa.below bq;clear bq
     go_wp2_with fail
     refine hK.out _ _ ?_ (fun hHeld=>?_)
     ·exact hcells.out _ hX
     clear hK K
     (try simp only [HE,HA,HB,HC])
     refine wpAnyH_ready (rs:=[4]) (by kernel_rfl) (by simp) ?_
     refine HD (o:=_) rfl (fun K hK=>?_) ?_
     ·go_simp
      go_at_call 23
      refine(dm s hok x hx _ _ _ sa.rep (fun b hb=>(sa.lt b hb).2)).mono ?_
      rintro e wq ⟨vq,rfl,⟨Vbq,Vfq,yq,sm⟩,bq⟩;have hXs:w12.heap.size≤wb.heap.size:=hX.size;have hX:=hX.trans (bq.mono hX.size);have hqX:=aB hq;replace hq:=Below.some bq hq;replace sa:=sa.below bq;rw [hRH.out] at sm;rw [hBoH.out];obtain rfl:=sm.val;obtain⟨mA,mn,mc,rfl⟩:=aU sm.box;obtain⟨mfA,mfn,mfc,rfl⟩:=am sm.fms.own;have hmlt:=sm.lt;have hqb:∀b,ShS (.slice mA mn mc) (.slice mfA mfn mfc) yq b→wa.heap.size≠b:=fun b hb=>by have:=hmlt b hb;omega
      have smb:∀b,ShS (.slice mA mn mc) (.slice mfA mfn mfc) yq b→w12.heap.size≤b:=fun b hb=>by have:=(hmlt b hb).1;omega
      replace sm:ShopAt wq w12.heap.size _ _ _ yq R:=⟨sm.val,sm.box,fun b hb=>smb b (.inl hb),sm.fms.base hXs,sm.dis⟩
      clear bq
      go_wp2_with fail
      refine hK.out _ _ ?_ (fun hHeld=>?_)
      ·exact hcells.out _ hX
      clear hK K
      (try simp only [HE,HA,HB,HC])
      refine wpAnyH_take (i:=5) (oi:=_) (v:=?vc9) rfl (by kernel_rfl) (by kernel_rfl) (by kernel_rfl) (fun _ _ _ h=>h) (HH ⟨by rfl,?yc9⟩) hHeld ?rc9
      case yc9=>(intro w0 hSw;obtain⟨hSw0,hSw1⟩:=hSw;go_simp;try with_reducible rfl)
      (try simp only [HE,HA,HB,HC])
      refine wpAnyH_take (i:=6) (oi:=_) (v:=?vc10) rfl (by kernel_rfl) (by kernel_rfl) (by kernel_rfl) (fun _ _ _ h=>h) (HH ⟨by rfl,?yc10⟩) hHeld ?rc10
      case yc10=>(intro w0 hSw;obtain⟨hSw0,hSw1⟩:=hSw;go_simp;try with_reducible rfl)
      (try simp only [HE,HA,HB,HC])
      refine wpAnyH_take (i:=7) (oi:=_) (v:=?vc11) rfl (by kernel_rfl) (by kernel_rfl) (by kernel_rfl) (fun _ _ _ h=>h) (HH ⟨by rfl,?yc11⟩) hHeld ?rc11
      case yc11=>(intro w0 hSw;obtain⟨hSw0,hSw1⟩:=hSw;go_simp;try with_reducible rfl)
      (try simp only [HE,HA,HB,HC])
      refine wpAnyH_ready (rs:=[9]) (by kernel_rfl) (by simp) ?_
      refine HD (o:=_) rfl (fun K hK=>?_) ?_
      ·obtain⟨g0,g1,g2,g3⟩:=aa hq
       obtain⟨j0,j1,j2,j3⟩:=aG hq
       go_simp
       have hX:=bd (.slice mA mn mc) (.slice mfA mfn mfc) (.int .i64 R.2.2.1) (.int .i64 R.2.2.2) hX hqge;replace hq:=aD (.slice mA mn mc) (.slice mfA mfn mfc) (.int .i64 R.2.2.1) (.int .i64 R.2.2.2) hq;replace sm:=sm.set4 (.slice mA mn mc) (.slice mfA mfn mfc) (.int .i64 R.2.2.1) (.int .i64 R.2.2.2) hqb;clear g0 g1 g2 g3 j0 j1 j2 j3;generalize ((((wq.setCell ⟨wa.heap.size,0,none⟩ (.slice mA mn mc)).setCell ⟨wa.heap.size,1,none⟩ (.slice mfA mfn mfc)).setCell ⟨wa.heap.size,2,none⟩ (.int .i64 R.2.2.1)).setCell ⟨wa.heap.size,3,none⟩ (.int .i64 R.2.2.2))=w8 at *;refine hK.out _ _ ?_ (fun hHeld=>?_)
       ·exact hcells.out _ hX
       clear hK K
       (try simp only [HE,HA,HB,HC])
       refine aL (by kernel_rfl) ?_
       go_simp
       have hql:=aB hq
       go_wp2
       go_meet
       case rel=>exact⟨_,rfl,rfl,⟨_,_,_,_,_,_,_,hq,sm,fun h=>hqb _ h rfl⟩,hqge,hql,hX⟩
      exact HG
     exact HG
    exact HG
   exact HG
  refine HD (o:=_) rfl (fun K hK=>?_) ?_
  ·go_simp
   have hXp:=hX;have hX:=hX.alloc hX.size (.cells #[.slice none 0 0,.slice none 0 0,.int .i64 0,.int .i64 0] 33);have hq:(W0.alloc (.cells #[.slice none 0 0,.slice none 0 0,.int .i64 0,.int .i64 0] 33)).heap[W0.heap.size]?=some (.cells #[.slice none 0 0,.slice none 0 0,.int .i64 0,.int .i64 0] 33 (0,0)):=ac _ rfl;have hqge:w12.heap.size≤W0.heap.size:=hXp.size;refine hK.out _ _ ?_ (fun hHeld=>?_)
   ·exact hcells.out _ hX
   clear hK K
   (try simp only [HE,HA,HB,HC])
   refine wpAnyH_ready (rs:=[1]) (by kernel_rfl) (by simp) ?_
   refine HD (o:=_) rfl (fun K hK=>?_) ?_
   ·go_simp
    go_at_call 10
    refine(fM s hok _ _ F (repX.out _ hX) (hFX.out _ hX)).mono ?_
    rintro e wa ⟨va,Va,ga,capa,ya,rfl,sa,bq⟩;have hXs:w12.heap.size≤(W0.alloc (.cells #[.slice none 0 0,.slice none 0 0,.int .i64 0,.int .i64 0] 33)).heap.size:=hX.size;have hX:=hX.trans (bq.mono hX.size);have hqX:=aB hq;replace hq:=Below.some bq hq;clear bq
    go_wp2_with fail
    refine hK.out _ _ ?_ (fun hHeld=>?_)
    ·exact hcells.out _ hX
    clear hK K
    (try simp only [HE,HA,HB,HC])
    refine wpAnyH_ready (rs:=[3]) (by kernel_rfl) (by simp) ?_
    refine HD (o:=_) rfl (fun K hK=>?_) ?_
    ·go_simp
     go_at_call 22
     refine(cm x).mono ?_
     rintro e wb ⟨rfl,bq⟩;have hXs:w12.heap.size≤wa.heap.size:=hX.size;have hX:=hX.trans (bq.mono hX.size);have hqX:=aB hq;replace hq:=Below.some bq hq;replace sa:=sa.below bq;clear bq
     go_wp2_with fail
     refine hK.out _ _ ?_ (fun hHeld=>?_)
     ·exact hcells.out _ hX
     clear hK K
     (try simp only [HE,HA,HB,HC])
     refine wpAnyH_ready (rs:=[4]) (by kernel_rfl) (by simp) ?_
     refine HD (o:=_) rfl (fun K hK=>?_) ?_
     ·go_simp
      go_at_call 23
      refine(dm s hok x hx _ _ _ sa.rep (fun b hb=>(sa.lt b hb).2)).mono ?_
      rintro e wq ⟨vq,rfl,⟨Vbq,Vfq,yq,sm⟩,bq⟩;have hXs:w12.heap.size≤wb.heap.size:=hX.size;have hX:=hX.trans (bq.mono hX.size);have hqX:=aB hq;replace hq:=Below.some bq hq;replace sa:=sa.below bq;rw [hRH.out] at sm;rw [hBoH.out];obtain rfl:=sm.val;obtain⟨mA,mn,mc,rfl⟩:=aU sm.box;obtain⟨mfA,mfn,mfc,rfl⟩:=am sm.fms.own;have hmlt:=sm.lt;have hqb:∀b,ShS (.slice mA mn mc) (.slice mfA mfn mfc) yq b→W0.heap.size≠b:=fun b hb=>by have:=hmlt b hb;omega
      have smb:∀b,ShS (.slice mA mn mc) (.slice mfA mfn mfc) yq b→w12.heap.size≤b:=fun b hb=>by have:=(hmlt b hb).1;omega
      replace sm:ShopAt wq w12.heap.size _ _ _ yq R:=⟨sm.val,sm.box,fun b hb=>smb b (.inl hb),sm.fms.base hXs,sm.dis⟩
      clear bq
      go_wp2_with fail
      refine hK.out _ _ ?_ (fun hHeld=>?_)
      ·exact hcells.out _ hX
      clear hK K
      (try simp only [HE,HA,HB,HC])
      refine wpAnyH_take (i:=5) (oi:=_) (v:=?vc12) rfl (by kernel_rfl) (by kernel_rfl) (by kernel_rfl) (fun _ _ _ h=>h) (HH ⟨by rfl,?yc12⟩) hHeld ?rc12
      case yc12=>(intro w0 hSw;obtain⟨hSw0,hSw1⟩:=hSw;go_simp;try with_reducible rfl)
      (try simp only [HE,HA,HB,HC])
      refine wpAnyH_take (i:=6) (oi:=_) (v:=?vc13) rfl (by kernel_rfl) (by kernel_rfl) (by kernel_rfl) (fun _ _ _ h=>h) (HH ⟨by rfl,?yc13⟩) hHeld ?rc13
      case yc13=>(intro w0 hSw;obtain⟨hSw0,hSw1⟩:=hSw;go_simp;try with_reducible rfl)
      (try simp only [HE,HA,HB,HC])
      refine wpAnyH_take (i:=7) (oi:=_) (v:=?vc14) rfl (by kernel_rfl) (by kernel_rfl) (by kernel_rfl) (fun _ _ _ h=>h) (HH ⟨by rfl,?yc14⟩) hHeld ?rc14
      case yc14=>(intro w0 hSw;obtain⟨hSw0,hSw1⟩:=hSw;go_simp;try with_reducible rfl)
      (try simp only [HE,HA,HB,HC])
      refine wpAnyH_ready (rs:=[9]) (by kernel_rfl) (by simp) ?_
      refine HD (o:=_) rfl (fun K hK=>?_) ?_
      ·obtain⟨g0,g1,g2,g3⟩:=aa hq
       obtain⟨j0,j1,j2,j3⟩:=aG hq
       go_simp
       have hX:=bd (.slice mA mn mc) (.slice mfA mfn mfc) (.int .i64 R.2.2.1) (.int .i64 R.2.2.2) hX hqge;replace hq:=aD (.slice mA mn mc) (.slice mfA mfn mfc) (.int .i64 R.2.2.1) (.int .i64 R.2.2.2) hq;replace sm:=sm.set4 (.slice mA mn mc) (.slice mfA mfn mfc) (.int .i64 R.2.2.1) (.int .i64 R.2.2.2) hqb;clear g0 g1 g2 g3 j0 j1 j2 j3;generalize ((((wq.setCell ⟨W0.heap.size,0,none⟩ (.slice mA mn mc)).setCell ⟨W0.heap.size,1,none⟩ (.slice mfA mfn mfc)).setCell ⟨W0.heap.size,2,none⟩ (.int .i64 R.2.2.1)).setCell ⟨W0.heap.size,3,none⟩ (.int .i64 R.2.2.2))=w8 at *;refine hK.out _ _ ?_ (fun hHeld=>?_)
       ·exact hcells.out _ hX
       clear hK K
       (try simp only [HE,HA,HB,HC])
       refine aL (by kernel_rfl) ?_
       go_simp
       have hql:=aB hq
       go_wp2
       go_meet
       case rel=>exact⟨_,rfl,rfl,⟨_,_,_,_,_,_,_,hq,sm,fun h=>hqb _ h rfl⟩,hqge,hql,hX⟩
      exact HG
     exact HG
    exact HG
   exact HG
  exact HG
 obtain⟨q27,rfl,rfl,⟨hA,hn,hk,hfA,hfn,hfk,yH,b12x,sH,hnH⟩,hqge27,hql27,bq⟩:=hcut;generalize wc=w14 at *;have b14:=bq;clear hcells repX hFX bq hbxl hbsl;have hq:¬(1+4*(R.1.length:Int)+bZ R.2.1<0):=by omega
 replace bx:=Below.some b14 bx;replace bs:=Below.some b14 bs;replace b4x:=Below.some b14 b4x;replace b7x:=Below.some b14 b7x;replace sW:=sW.below b14;replace sG11:=sG11.below b14;have B14:=bm B12 b14 B12.size;have hs14:=b14.size;clear b14;have hc15:=ju R hRok sH.rep (fun b hb=>(sH.lt b hb).2) sW.rep (fun b hb=>(sW.lt b hb).2);obtain⟨cg0,cg1,cg2,cg3⟩:=aa b12x;obtain⟨cw0,cw1,cw2,cw3⟩:=aa b4x
 go_wp2_with (go_at_call 13;refine hc15.mono ?_)
 rintro e w15 rfl b15;clear hc15 cg0 cg1 cg2 cg3 cw0 cw1 cw2 cw3 sW sH;replace bx:=Below.some b15 bx;replace b7x:=Below.some b15 b7x;replace sG11:=sG11.below b15;have B15:=bm B14 b15 B14.size;have hs15:=b15.size;clear b15;have hc16:=nl R 1 hRok (by omega) (by omega) sG11.rep (fun b hb=>(sG11.lt b hb).2);obtain⟨cg0,cg1,cg2,cg3⟩:=aa b7x
 go_wp2_with (go_at_call 19;refine hc16.mono ?_)
 rintro e w16 ⟨rfl,b16⟩;have B16:=bm B15 b16 B15.size;clear hc16 b16 cg0 cg1 cg2 cg3
 go_wp2
 go_ret
 exact⟨rfl,B16⟩
open Classical in
def sZ (ds:List D):Option Out:=if ∃s x,ds=[sp s,stp x]∧Cg s∧x.2.2.1.size≤9223372036854775807 then some (.ret [B true] []) else none
theorem Cr {s:Sp} {x:Stp} (h:Cg s) (hx:x.2.2.1.size≤9223372036854775807):sZ [sp s,stp x]=some (.ret [B true] []):=if_pos ⟨s,x,rfl,h,hx⟩
@[reducible] def kC:FS:={pm:=[.dat 2,.dat 0],rm:=[.dat 0],f:=sZ}
theorem kA:aH gl0 Try.prog 5 kC:=by
 refine tP (Go.Proofs.enters_of Try.func5 (by kernel_rfl) rfl) fun ds rs us hd args w F ow hg ha hF _=>?_
 obtain⟨d,y,d2,y2,rfl,h2,h3,h4⟩:=Dr ha;replace hd:sZ [d,d2]=some (.ret rs us):=hd;unfold sZ at hd;split at hd
 case isFalse=>cases hd
 rename_i hs;obtain⟨s,x,e,hs,hx⟩:=hs;cases hd;simp only [List.cons.injEq,and_true] at e;obtain⟨rfl,rfl⟩:=e;rcases h3 with h3 | h3
 ·cases h3
 rcases h4 with h4 | h4
 ·cases h4
 have h5:=BK h4;subst h5;obtain rfl:args=#[y,stV x]:=by
  cases args;simp only [List.toArray_inj] at h2 ⊢;exact congrArg List.toArray h2
 refine(xi s hs x hx y w F h3 (fun b hb=>(hF b hb).1)).mono ?_
 rintro e w' ⟨rfl,hB⟩;refine⟨_,rfl,F,fun _=>none,[.bool true],rfl,CQ hB hF rfl rfl [B true] [.bool true] rfl rfl fun j d hd=>?_⟩
 match j,hd with
 | 0,hd =>
  cases hd;exact⟨_,rfl,dL.2 ⟨rfl,rfl⟩⟩
end Go.Proofs.Ytkcojipciiakdaa

end
