/- The walk of the law FnPerms: it returns true, and writes to nothing that was there. No condition. -/
import Derived.Test.YtjhlianledgiiaaD03
import Derived.Test.YtjhlianledgiiaaE01
import Derived.Test.YtjhlianledgiiaaE03
import Derived.Test.YtjhlianledgiiaaE04
import Derived.Test.YtjhlianledgiiaaE05
import Derived.Test.YtjhlianledgiiaaF03
import Derived.Test.YtjhlianledgiiaaF06
import Derived.Test.YtjhlianledgiiaaF09
import Derived.Test.YtjhlianledgiiaaF11
import Derived.Test.YtjhlianledgiiaaF21
import Derived.Test.YtjhlianledgiiaaF27
namespace Go.Proofs.Ytjhlianledgiiaa
open Go.RowKit

set_option maxHeartbeats 4000000 in
set_option maxRecDepth 100000 in
theorem FnPerms_walk (a : Option Addr) (n c : Nat) (z : Unit) {w : World} (hin : InBytes w a n c z) :
    Calls Try.prog 7 #[.slice a n c] w fun e w' => e = .returned (.bool true) ∧ Below w.heap.size w w' := by
  obtain ⟨hC, hnc, hcm⟩ := hin
  have hG := big_any a n c w (by omega)
  by_cases hbig : 1048576 < n
  · rw [decide_eq_true hbig] at hG
    clear hbig
    go_enter Try.func7, Try.ntmps7
    go_wp2_with fail
    refine hG.mono ?_
    rintro e w1 ⟨rfl, rfl⟩
    go_wp2
    go_ret
    exact ⟨rfl, Below.refl _ _⟩
  rw [decide_eq_false hbig] at hG
  have hn : n ≤ 1048576 := by omega
  have hcode := Lib.hid hC
  clear hbig hnc hcm hC
  go_enter Try.func7, Try.ntmps7
  go_wp2_with fail
  refine hG.mono ?_
  rintro e w1 ⟨rfl, hw1⟩
  obtain rfl : w = w1 := hw1.symm
  clear hG
  go_wp2_with fail
  refine (drawInversePerm_any a n c _ hn hcode.out).mono ?_
  rintro e w1 ⟨gp, np, cp, xp, rfl, hmp, ho, hb1⟩
  have tcode := Lib.hid ((hcode.out.below hb1).mono hb1.size); clear hcode; have hcode := tcode; clear tcode
  have hB1 : Below w.heap.size w w1 := hb1
  have hp := Lib.hid (ho.sl (by omega)); clear ho
  clear hb1
  obtain ⟨b, hb0⟩ : ∃ b, b = decide (Perm8 xp) := ⟨_, rfl⟩
  have HInvI : Hid (∀ W, SlI W (some ⟨gp, 0, none⟩) np cp xp → Calls Try.prog 46 #[.slice (some ⟨gp, 0, none⟩) np cp] W (RetIB W (invP xp) b)) := fun W h => by have t := impl_InversePerm (some ⟨gp, 0, none⟩) np cp xp W h; first | exact t | (rw [hb0]; exact t)
  have HInvS : Hid (∀ W, SlI W (some ⟨gp, 0, none⟩) np cp xp → Calls Try.prog 47 #[.slice (some ⟨gp, 0, none⟩) np cp] W (RetIB W (invP xp) b)) := fun W h => by have t := spec_InversePerm (some ⟨gp, 0, none⟩) np cp xp W h; first | exact t | (rw [hb0]; exact t)
  have HIsI : Hid (∀ W, SlI W (some ⟨gp, 0, none⟩) np cp xp → Calls Try.prog 65 #[.slice (some ⟨gp, 0, none⟩) np cp] W (RetV W (.bool b))) := fun W h => by have t := impl_IsPerm (some ⟨gp, 0, none⟩) np cp xp W h; first | exact t | (rw [hb0]; exact t)
  have HIsS : Hid (∀ W, SlI W (some ⟨gp, 0, none⟩) np cp xp → Calls Try.prog 44 #[.slice (some ⟨gp, 0, none⟩) np cp] W (RetV W (.bool b))) := fun W h => by have t := spec_IsPerm (some ⟨gp, 0, none⟩) np cp xp W h; first | exact t | (rw [hb0]; exact t)
  obtain ⟨T, hT⟩ : ∃ T : ByteArray, T = ⟨(ptx xp).toArray⟩ := ⟨_, rfl⟩
  have HTI : Hid (∀ W, SlI W (some ⟨gp, 0, none⟩) np cp xp → Calls Try.prog 66 #[.slice (some ⟨gp, 0, none⟩) np cp] W (RetV W (.string T))) := fun W h => by rw [hT]; exact impl_PermText (some ⟨gp, 0, none⟩) np cp xp W h
  have HTS : Hid (∀ W, SlI W (some ⟨gp, 0, none⟩) np cp xp → Calls Try.prog 67 #[.slice (some ⟨gp, 0, none⟩) np cp] W (RetV W (.string T))) := fun W h => by rw [hT]; exact spec_PermText (some ⟨gp, 0, none⟩) np cp xp W h
  have hTs : T.size ≤ 9 := by rw [hT]; exact size_ptx xp
  have HPR : Hid (∀ W, Calls Try.prog 55 #[.string T] W (RetIB W (prsP T) b)) := fun W => by have t := impl_ParsePerm T W (by omega); rw [hb0, ← (text_read xp).1, ← hT]; exact t
  have HPT : Hid (b = true → prsP T = xp) := fun h => by rw [hT]; exact (text_read xp).2 (of_decide_eq_true (by rw [← hb0]; exact h))
  have HPX : Hid (b = true → Perm8 xp) := fun h => of_decide_eq_true (by rw [← hb0]; exact h)
  clear hb0 hT
  go_wp2_with fail
  refine (HInvI.out _ hp.out).mono ?_
  rintro e w2 ⟨ai, ni, ci, rfl, ho, hb2⟩
  have tcode := Lib.hid ((hcode.out.below hb2).mono hb2.size); clear hcode; have hcode := tcode; clear tcode
  have tp := Lib.hid (hp.out.below hb2); clear hp; have hp := tp; clear tp
  have hB2 : Below w.heap.size w w2 := hB1.trans (hb2.mono hB1.size)
  have hi := Lib.hid (ho.sl (by have h1 := ho.1; have h2 := length_invP xp; omega)); clear ho
  clear hb2
  go_wp2_with fail
  refine (HInvS.out _ hp.out).mono ?_
  rintro e w3 ⟨awant, nwant, cwant, rfl, ho, hb3⟩
  have tcode := Lib.hid ((hcode.out.below hb3).mono hb3.size); clear hcode; have hcode := tcode; clear tcode
  have tp := Lib.hid (hp.out.below hb3); clear hp; have hp := tp; clear tp
  have ti := Lib.hid (hi.out.below hb3); clear hi; have hi := ti; clear ti
  have hB3 : Below w.heap.size w w3 := hB2.trans (hb3.mono hB2.size)
  have hwant := Lib.hid (ho.sl (by have h1 := ho.1; have h2 := length_invP xp; omega)); clear ho
  clear hb3
  go_wp2_with fail
  refine (drawComposePerm_any a n c _ hn hcode.out).mono ?_
  rintro e w4 ⟨gq, nq, cq, xq, gr, nr, cr, xr, rfl, hmq, hmr, ho, ho2, hb4⟩
  have tcode := Lib.hid ((hcode.out.below hb4).mono hb4.size); clear hcode; have hcode := tcode; clear tcode
  have tp := Lib.hid (hp.out.below hb4); clear hp; have hp := tp; clear tp
  have ti := Lib.hid (hi.out.below hb4); clear hi; have hi := ti; clear ti
  have twant := Lib.hid (hwant.out.below hb4); clear hwant; have hwant := twant; clear twant
  have hB4 : Below w.heap.size w w4 := hB3.trans (hb4.mono hB3.size)
  have hq := Lib.hid (ho.sl (by omega)); have hr := Lib.hid (ho2.sl (by omega)); clear ho ho2
  clear hb4
  go_wp2_with fail
  refine (impl_ComposePerm (some ⟨gq, 0, none⟩) nq cq xq (some ⟨gr, 0, none⟩) nr cr xr _ hq.out hr.out).mono ?_
  rintro e w5 ⟨acc, ncc, ccc, rfl, ho, hb5⟩
  have tcode := Lib.hid ((hcode.out.below hb5).mono hb5.size); clear hcode; have hcode := tcode; clear tcode
  have tp := Lib.hid (hp.out.below hb5); clear hp; have hp := tp; clear tp
  have ti := Lib.hid (hi.out.below hb5); clear hi; have hi := ti; clear ti
  have twant := Lib.hid (hwant.out.below hb5); clear hwant; have hwant := twant; clear twant
  have tq := Lib.hid (hq.out.below hb5); clear hq; have hq := tq; clear tq
  have tr := Lib.hid (hr.out.below hb5); clear hr; have hr := tr; clear tr
  have hB5 : Below w.heap.size w w5 := hB4.trans (hb5.mono hB4.size)
  have hcc := Lib.hid (ho.sl (by have h1 := ho.1; have h2 := length_compP xq xr; omega)); clear ho
  clear hb5
  go_wp2_with fail
  refine (spec_ComposePerm (some ⟨gq, 0, none⟩) nq cq xq (some ⟨gr, 0, none⟩) nr cr xr _ hq.out hr.out).mono ?_
  rintro e w6 ⟨ad, nd, cd, rfl, ho, hb6⟩
  have tcode := Lib.hid ((hcode.out.below hb6).mono hb6.size); clear hcode; have hcode := tcode; clear tcode
  have tp := Lib.hid (hp.out.below hb6); clear hp; have hp := tp; clear tp
  have ti := Lib.hid (hi.out.below hb6); clear hi; have hi := ti; clear ti
  have twant := Lib.hid (hwant.out.below hb6); clear hwant; have hwant := twant; clear twant
  have tq := Lib.hid (hq.out.below hb6); clear hq; have hq := tq; clear tq
  have tr := Lib.hid (hr.out.below hb6); clear hr; have hr := tr; clear tr
  have tcc := Lib.hid (hcc.out.below hb6); clear hcc; have hcc := tcc; clear tcc
  have hB6 : Below w.heap.size w w6 := hB5.trans (hb6.mono hB5.size)
  have hd := Lib.hid (ho.sl (by have h1 := ho.1; have h2 := length_compP xq xr; omega)); clear ho
  clear hb6
  go_wp2_with fail
  refine (drawPatternOf_any a n c _ hn hcode.out).mono ?_
  rintro e w7 ⟨gl, nl, cl, xl, rfl, hml, ho, hb7⟩
  have tcode := Lib.hid ((hcode.out.below hb7).mono hb7.size); clear hcode; have hcode := tcode; clear tcode
  have tp := Lib.hid (hp.out.below hb7); clear hp; have hp := tp; clear tp
  have ti := Lib.hid (hi.out.below hb7); clear hi; have hi := ti; clear ti
  have twant := Lib.hid (hwant.out.below hb7); clear hwant; have hwant := twant; clear twant
  have tq := Lib.hid (hq.out.below hb7); clear hq; have hq := tq; clear tq
  have tr := Lib.hid (hr.out.below hb7); clear hr; have hr := tr; clear tr
  have tcc := Lib.hid (hcc.out.below hb7); clear hcc; have hcc := tcc; clear tcc
  have td := Lib.hid (hd.out.below hb7); clear hd; have hd := td; clear td
  have hB7 : Below w.heap.size w w7 := hB6.trans (hb7.mono hB6.size)
  have hl := Lib.hid (ho.sl (by omega)); clear ho
  clear hb7
  go_wp2_with fail
  refine (impl_PatternOf (some ⟨gl, 0, none⟩) nl cl xl _ hl.out).mono ?_
  rintro e w8 ⟨ae, ne, ce, rfl, ho, hb8⟩
  have tcode := Lib.hid ((hcode.out.below hb8).mono hb8.size); clear hcode; have hcode := tcode; clear tcode
  have tp := Lib.hid (hp.out.below hb8); clear hp; have hp := tp; clear tp
  have ti := Lib.hid (hi.out.below hb8); clear hi; have hi := ti; clear ti
  have twant := Lib.hid (hwant.out.below hb8); clear hwant; have hwant := twant; clear twant
  have tq := Lib.hid (hq.out.below hb8); clear hq; have hq := tq; clear tq
  have tr := Lib.hid (hr.out.below hb8); clear hr; have hr := tr; clear tr
  have tcc := Lib.hid (hcc.out.below hb8); clear hcc; have hcc := tcc; clear tcc
  have td := Lib.hid (hd.out.below hb8); clear hd; have hd := td; clear td
  have tl := Lib.hid (hl.out.below hb8); clear hl; have hl := tl; clear tl
  have hB8 : Below w.heap.size w w8 := hB7.trans (hb8.mono hB7.size)
  have he := Lib.hid (ho.sl (by have h1 := ho.1; have h2 := length_patP xl; omega)); clear ho
  clear hb8
  go_wp2_with fail
  refine (spec_PatternOf (some ⟨gl, 0, none⟩) nl cl xl _ hl.out).mono ?_
  rintro e w9 ⟨af, nf, cf, rfl, ho, hb9⟩
  have tcode := Lib.hid ((hcode.out.below hb9).mono hb9.size); clear hcode; have hcode := tcode; clear tcode
  have tp := Lib.hid (hp.out.below hb9); clear hp; have hp := tp; clear tp
  have ti := Lib.hid (hi.out.below hb9); clear hi; have hi := ti; clear ti
  have twant := Lib.hid (hwant.out.below hb9); clear hwant; have hwant := twant; clear twant
  have tq := Lib.hid (hq.out.below hb9); clear hq; have hq := tq; clear tq
  have tr := Lib.hid (hr.out.below hb9); clear hr; have hr := tr; clear tr
  have tcc := Lib.hid (hcc.out.below hb9); clear hcc; have hcc := tcc; clear tcc
  have td := Lib.hid (hd.out.below hb9); clear hd; have hd := td; clear td
  have tl := Lib.hid (hl.out.below hb9); clear hl; have hl := tl; clear tl
  have te := Lib.hid (he.out.below hb9); clear he; have he := te; clear te
  have hB9 : Below w.heap.size w w9 := hB8.trans (hb9.mono hB8.size)
  have hf := Lib.hid (ho.sl (by have h1 := ho.1; have h2 := length_patP xl; omega)); clear ho
  clear hb9
  clear hl
  go_wp2_with fail
  refine (drawParsePerm_any a n c _ hn hcode.out).mono ?_
  rintro e w10 ⟨tx, rfl, htx, hb10⟩
  have tcode := Lib.hid ((hcode.out.below hb10).mono hb10.size); clear hcode; have hcode := tcode; clear tcode
  have tp := Lib.hid (hp.out.below hb10); clear hp; have hp := tp; clear tp
  have ti := Lib.hid (hi.out.below hb10); clear hi; have hi := ti; clear ti
  have twant := Lib.hid (hwant.out.below hb10); clear hwant; have hwant := twant; clear twant
  have tq := Lib.hid (hq.out.below hb10); clear hq; have hq := tq; clear tq
  have tr := Lib.hid (hr.out.below hb10); clear hr; have hr := tr; clear tr
  have tcc := Lib.hid (hcc.out.below hb10); clear hcc; have hcc := tcc; clear tcc
  have td := Lib.hid (hd.out.below hb10); clear hd; have hd := td; clear td
  have te := Lib.hid (he.out.below hb10); clear he; have he := te; clear te
  have tf := Lib.hid (hf.out.below hb10); clear hf; have hf := tf; clear tf
  have hB10 : Below w.heap.size w w10 := hB9.trans (hb10.mono hB9.size)
  clear hb10
  go_wp2_with fail
  refine (impl_ParsePerm tx _ (by omega)).mono ?_
  rintro e w11 ⟨ax, nx, cx, rfl, ho, hb11⟩
  have tcode := Lib.hid ((hcode.out.below hb11).mono hb11.size); clear hcode; have hcode := tcode; clear tcode
  have tp := Lib.hid (hp.out.below hb11); clear hp; have hp := tp; clear tp
  have ti := Lib.hid (hi.out.below hb11); clear hi; have hi := ti; clear ti
  have twant := Lib.hid (hwant.out.below hb11); clear hwant; have hwant := twant; clear twant
  have tq := Lib.hid (hq.out.below hb11); clear hq; have hq := tq; clear tq
  have tr := Lib.hid (hr.out.below hb11); clear hr; have hr := tr; clear tr
  have tcc := Lib.hid (hcc.out.below hb11); clear hcc; have hcc := tcc; clear tcc
  have td := Lib.hid (hd.out.below hb11); clear hd; have hd := td; clear td
  have te := Lib.hid (he.out.below hb11); clear he; have he := te; clear te
  have tf := Lib.hid (hf.out.below hb11); clear hf; have hf := tf; clear tf
  have hB11 : Below w.heap.size w w11 := hB10.trans (hb11.mono hB10.size)
  have hx := Lib.hid (ho.sl (by have h1 := ho.1; have h2 := length_prsP tx; omega)); clear ho
  clear hb11
  go_wp2_with fail
  refine (spec_ParsePerm tx _ (by omega)).mono ?_
  rintro e w12 ⟨ay, ny, cy, rfl, ho, hb12⟩
  have tcode := Lib.hid ((hcode.out.below hb12).mono hb12.size); clear hcode; have hcode := tcode; clear tcode
  have tp := Lib.hid (hp.out.below hb12); clear hp; have hp := tp; clear tp
  have ti := Lib.hid (hi.out.below hb12); clear hi; have hi := ti; clear ti
  have twant := Lib.hid (hwant.out.below hb12); clear hwant; have hwant := twant; clear twant
  have tq := Lib.hid (hq.out.below hb12); clear hq; have hq := tq; clear tq
  have tr := Lib.hid (hr.out.below hb12); clear hr; have hr := tr; clear tr
  have tcc := Lib.hid (hcc.out.below hb12); clear hcc; have hcc := tcc; clear tcc
  have td := Lib.hid (hd.out.below hb12); clear hd; have hd := td; clear td
  have te := Lib.hid (he.out.below hb12); clear he; have he := te; clear te
  have tf := Lib.hid (hf.out.below hb12); clear hf; have hf := tf; clear tf
  have tx := Lib.hid (hx.out.below hb12); clear hx; have hx := tx; clear tx
  have hB12 : Below w.heap.size w w12 := hB11.trans (hb12.mono hB11.size)
  have hy := Lib.hid (ho.sl (by have h1 := ho.1; have h2 := length_prsP tx; omega)); clear ho
  clear hb12
  go_wp2_with fail
  refine (drawIdentityPerm_any a n c _ hn hcode.out).mono ?_
  rintro e w13 ⟨xn, rfl, hn1, hn2, hb13⟩
  have tcode := Lib.hid ((hcode.out.below hb13).mono hb13.size); clear hcode; have hcode := tcode; clear tcode
  have tp := Lib.hid (hp.out.below hb13); clear hp; have hp := tp; clear tp
  have ti := Lib.hid (hi.out.below hb13); clear hi; have hi := ti; clear ti
  have twant := Lib.hid (hwant.out.below hb13); clear hwant; have hwant := twant; clear twant
  have tq := Lib.hid (hq.out.below hb13); clear hq; have hq := tq; clear tq
  have tr := Lib.hid (hr.out.below hb13); clear hr; have hr := tr; clear tr
  have tcc := Lib.hid (hcc.out.below hb13); clear hcc; have hcc := tcc; clear tcc
  have td := Lib.hid (hd.out.below hb13); clear hd; have hd := td; clear td
  have te := Lib.hid (he.out.below hb13); clear he; have he := te; clear te
  have tf := Lib.hid (hf.out.below hb13); clear hf; have hf := tf; clear tf
  have tx := Lib.hid (hx.out.below hb13); clear hx; have hx := tx; clear tx
  have ty := Lib.hid (hy.out.below hb13); clear hy; have hy := ty; clear ty
  have hB13 : Below w.heap.size w w13 := hB12.trans (hb13.mono hB12.size)
  clear hb13
  go_wp2_with fail
  refine (drawPermsOf_any a n c _ hn hcode.out).mono ?_
  rintro e w14 ⟨xm, rfl, hm1, hm2, hb14⟩
  have tcode := Lib.hid ((hcode.out.below hb14).mono hb14.size); clear hcode; have hcode := tcode; clear tcode
  have tp := Lib.hid (hp.out.below hb14); clear hp; have hp := tp; clear tp
  have ti := Lib.hid (hi.out.below hb14); clear hi; have hi := ti; clear ti
  have twant := Lib.hid (hwant.out.below hb14); clear hwant; have hwant := twant; clear twant
  have tq := Lib.hid (hq.out.below hb14); clear hq; have hq := tq; clear tq
  have tr := Lib.hid (hr.out.below hb14); clear hr; have hr := tr; clear tr
  have tcc := Lib.hid (hcc.out.below hb14); clear hcc; have hcc := tcc; clear tcc
  have td := Lib.hid (hd.out.below hb14); clear hd; have hd := td; clear td
  have te := Lib.hid (he.out.below hb14); clear he; have he := te; clear te
  have tf := Lib.hid (hf.out.below hb14); clear hf; have hf := tf; clear tf
  have tx := Lib.hid (hx.out.below hb14); clear hx; have hx := tx; clear tx
  have ty := Lib.hid (hy.out.below hb14); clear hy; have hy := ty; clear ty
  have hB14 : Below w.heap.size w w14 := hB13.trans (hb14.mono hB13.size)
  clear hb14
  clear hcode
  by_cases h5 : 5 < xm
  all_goals
    go_wp2_with fail
    refine (sameInts_same ai awant ni nwant ci cwant _ _ hi.out hwant.out).mono ?_
    rintro e w15 ⟨rfl, hb15⟩
    have tp := Lib.hid (hp.out.below hb15); clear hp; have hp := tp; clear tp
    have ti := Lib.hid (hi.out.below hb15); clear hi; have hi := ti; clear ti
    have twant := Lib.hid (hwant.out.below hb15); clear hwant; have hwant := twant; clear twant
    have tq := Lib.hid (hq.out.below hb15); clear hq; have hq := tq; clear tq
    have tr := Lib.hid (hr.out.below hb15); clear hr; have hr := tr; clear tr
    have tcc := Lib.hid (hcc.out.below hb15); clear hcc; have hcc := tcc; clear tcc
    have td := Lib.hid (hd.out.below hb15); clear hd; have hd := td; clear td
    have te := Lib.hid (he.out.below hb15); clear he; have he := te; clear te
    have tf := Lib.hid (hf.out.below hb15); clear hf; have hf := tf; clear tf
    have tx := Lib.hid (hx.out.below hb15); clear hx; have hx := tx; clear tx
    have ty := Lib.hid (hy.out.below hb15); clear hy; have hy := ty; clear ty
    have hB15 : Below w.heap.size w w15 := hB14.trans (hb15.mono hB14.size)
    clear hb15
    clear hwant
    go_wp2_with fail
    refine (sameInts_same acc ad ncc nd ccc cd _ _ hcc.out hd.out).mono ?_
    rintro e w16 ⟨rfl, hb16⟩
    have tp := Lib.hid (hp.out.below hb16); clear hp; have hp := tp; clear tp
    have ti := Lib.hid (hi.out.below hb16); clear hi; have hi := ti; clear ti
    have tq := Lib.hid (hq.out.below hb16); clear hq; have hq := tq; clear tq
    have tr := Lib.hid (hr.out.below hb16); clear hr; have hr := tr; clear tr
    have tcc := Lib.hid (hcc.out.below hb16); clear hcc; have hcc := tcc; clear tcc
    have td := Lib.hid (hd.out.below hb16); clear hd; have hd := td; clear td
    have te := Lib.hid (he.out.below hb16); clear he; have he := te; clear te
    have tf := Lib.hid (hf.out.below hb16); clear hf; have hf := tf; clear tf
    have tx := Lib.hid (hx.out.below hb16); clear hx; have hx := tx; clear tx
    have ty := Lib.hid (hy.out.below hb16); clear hy; have hy := ty; clear ty
    have hB16 : Below w.heap.size w w16 := hB15.trans (hb16.mono hB15.size)
    clear hb16
    clear hcc
    clear hd
    go_wp2_with fail
    refine (sameInts_same ae af ne nf ce cf _ _ he.out hf.out).mono ?_
    rintro e w17 ⟨rfl, hb17⟩
    have tp := Lib.hid (hp.out.below hb17); clear hp; have hp := tp; clear tp
    have ti := Lib.hid (hi.out.below hb17); clear hi; have hi := ti; clear ti
    have tq := Lib.hid (hq.out.below hb17); clear hq; have hq := tq; clear tq
    have tr := Lib.hid (hr.out.below hb17); clear hr; have hr := tr; clear tr
    have te := Lib.hid (he.out.below hb17); clear he; have he := te; clear te
    have tf := Lib.hid (hf.out.below hb17); clear hf; have hf := tf; clear tf
    have tx := Lib.hid (hx.out.below hb17); clear hx; have hx := tx; clear tx
    have ty := Lib.hid (hy.out.below hb17); clear hy; have hy := ty; clear ty
    have hB17 : Below w.heap.size w w17 := hB16.trans (hb17.mono hB16.size)
    clear hb17
    clear he
    clear hf
    go_wp2_with fail
    refine (sameInts_same ax ay nx ny cx cy _ _ hx.out hy.out).mono ?_
    rintro e w18 ⟨rfl, hb18⟩
    have tp := Lib.hid (hp.out.below hb18); clear hp; have hp := tp; clear tp
    have ti := Lib.hid (hi.out.below hb18); clear hi; have hi := ti; clear ti
    have tq := Lib.hid (hq.out.below hb18); clear hq; have hq := tq; clear tq
    have tr := Lib.hid (hr.out.below hb18); clear hr; have hr := tr; clear tr
    have tx := Lib.hid (hx.out.below hb18); clear hx; have hx := tx; clear tx
    have ty := Lib.hid (hy.out.below hb18); clear hy; have hy := ty; clear ty
    have hB18 : Below w.heap.size w w18 := hB17.trans (hb18.mono hB17.size)
    clear hb18
    clear hx
    clear hy
    go_wp2_with fail
    refine (impl_IdentityPerm xn _ (wf_mid (by omega) (by omega))).mono ?_
    rintro e w19 ⟨aid1, nid1, cid1, rfl, ho, hb19⟩
    have tp := Lib.hid (hp.out.below hb19); clear hp; have hp := tp; clear tp
    have ti := Lib.hid (hi.out.below hb19); clear hi; have hi := ti; clear ti
    have tq := Lib.hid (hq.out.below hb19); clear hq; have hq := tq; clear tq
    have tr := Lib.hid (hr.out.below hb19); clear hr; have hr := tr; clear tr
    have hB19 : Below w.heap.size w w19 := hB18.trans (hb19.mono hB18.size)
    have hid1 := Lib.hid (ho.sl (by have h1 := ho.1; have h2 := length_identP xn; omega)); clear ho
    clear hb19
    go_wp2_with fail
    refine (spec_IdentityPerm xn _ (wf_mid (by omega) (by omega))).mono ?_
    rintro e w20 ⟨aid2, nid2, cid2, rfl, ho, hb20⟩
    have tp := Lib.hid (hp.out.below hb20); clear hp; have hp := tp; clear tp
    have ti := Lib.hid (hi.out.below hb20); clear hi; have hi := ti; clear ti
    have tq := Lib.hid (hq.out.below hb20); clear hq; have hq := tq; clear tq
    have tr := Lib.hid (hr.out.below hb20); clear hr; have hr := tr; clear tr
    have tid1 := Lib.hid (hid1.out.below hb20); clear hid1; have hid1 := tid1; clear tid1
    have hB20 : Below w.heap.size w w20 := hB19.trans (hb20.mono hB19.size)
    have hid2 := Lib.hid (ho.sl (by have h1 := ho.1; have h2 := length_identP xn; omega)); clear ho
    clear hb20
    go_wp2_with fail
    refine (sameInts_same aid1 aid2 nid1 nid2 cid1 cid2 _ _ hid1.out hid2.out).mono ?_
    rintro e w21 ⟨rfl, hb21⟩
    have tp := Lib.hid (hp.out.below hb21); clear hp; have hp := tp; clear tp
    have ti := Lib.hid (hi.out.below hb21); clear hi; have hi := ti; clear ti
    have tq := Lib.hid (hq.out.below hb21); clear hq; have hq := tq; clear tq
    have tr := Lib.hid (hr.out.below hb21); clear hr; have hr := tr; clear tr
    have tid1 := Lib.hid (hid1.out.below hb21); clear hid1; have hid1 := tid1; clear tid1
    have tid2 := Lib.hid (hid2.out.below hb21); clear hid2; have hid2 := tid2; clear tid2
    have hB21 : Below w.heap.size w w21 := hB20.trans (hb21.mono hB20.size)
    clear hb21
    clear hid1
    clear hid2
    go_wp2_with fail
    refine (impl_PermsOf _ _ (wf_mid (by omega) (by omega))).mono ?_
    rintro e w22 ⟨am1, nm1, cm1, rfl, ho, hb22⟩
    have tp := Lib.hid (hp.out.below hb22); clear hp; have hp := tp; clear tp
    have ti := Lib.hid (hi.out.below hb22); clear hi; have hi := ti; clear ti
    have tq := Lib.hid (hq.out.below hb22); clear hq; have hq := tq; clear tq
    have tr := Lib.hid (hr.out.below hb22); clear hr; have hr := tr; clear tr
    have hB22 : Below w.heap.size w w22 := hB21.trans (hb22.mono hB21.size)
    have hm1 := Lib.hid (ho.iisT (bound_permsP _)); clear ho
    clear hb22
    go_wp2_with fail
    refine (spec_PermsOf _ _ (wf_mid (by omega) (by omega))).mono ?_
    rintro e w23 ⟨am2, nm2, cm2, rfl, ho, hb23⟩
    have tp := Lib.hid (hp.out.below hb23); clear hp; have hp := tp; clear tp
    have ti := Lib.hid (hi.out.below hb23); clear hi; have hi := ti; clear ti
    have tq := Lib.hid (hq.out.below hb23); clear hq; have hq := tq; clear tq
    have tr := Lib.hid (hr.out.below hb23); clear hr; have hr := tr; clear tr
    have tm1 := Lib.hid (hm1.out.below hb23); clear hm1; have hm1 := tm1; clear tm1
    have hB23 : Below w.heap.size w w23 := hB22.trans (hb23.mono hB22.size)
    have hm2 := Lib.hid (ho.iisT (bound_permsP _)); clear ho
    clear hb23
    go_wp2_with fail
    refine (sameLists_same am1 am2 nm1 nm2 cm1 cm2 _ _ hm1.out hm2.out).mono ?_
    rintro e w24 ⟨rfl, hb24⟩
    have tp := Lib.hid (hp.out.below hb24); clear hp; have hp := tp; clear tp
    have ti := Lib.hid (hi.out.below hb24); clear hi; have hi := ti; clear ti
    have tq := Lib.hid (hq.out.below hb24); clear hq; have hq := tq; clear tq
    have tr := Lib.hid (hr.out.below hb24); clear hr; have hr := tr; clear tr
    have tm1 := Lib.hid (hm1.out.below hb24); clear hm1; have hm1 := tm1; clear tm1
    have tm2 := Lib.hid (hm2.out.below hb24); clear hm2; have hm2 := tm2; clear tm2
    have hB24 : Below w.heap.size w w24 := hB23.trans (hb24.mono hB23.size)
    clear hb24
    clear hm1
    clear hm2
    go_wp2_with fail
    refine (impl_BeforePerm (some ⟨gq, 0, none⟩) nq cq xq (some ⟨gr, 0, none⟩) nr cr xr _ hq.out hr.out).mono ?_
    rintro e w25 ⟨rfl, hb25⟩
    have tp := Lib.hid (hp.out.below hb25); clear hp; have hp := tp; clear tp
    have ti := Lib.hid (hi.out.below hb25); clear hi; have hi := ti; clear ti
    have tq := Lib.hid (hq.out.below hb25); clear hq; have hq := tq; clear tq
    have tr := Lib.hid (hr.out.below hb25); clear hr; have hr := tr; clear tr
    have hB25 : Below w.heap.size w w25 := hB24.trans (hb25.mono hB24.size)
    clear hb25
    go_wp2_with fail
    refine (spec_BeforePerm (some ⟨gq, 0, none⟩) nq cq xq (some ⟨gr, 0, none⟩) nr cr xr _ hq.out hr.out).mono ?_
    rintro e w26 ⟨rfl, hb26⟩
    have tp := Lib.hid (hp.out.below hb26); clear hp; have hp := tp; clear tp
    have ti := Lib.hid (hi.out.below hb26); clear hi; have hi := ti; clear ti
    have tq := Lib.hid (hq.out.below hb26); clear hq; have hq := tq; clear tq
    have tr := Lib.hid (hr.out.below hb26); clear hr; have hr := tr; clear tr
    have hB26 : Below w.heap.size w w26 := hB25.trans (hb26.mono hB25.size)
    clear hb26
    clear hq
    clear hr
    go_wp2_with fail
    refine (HIsI.out _ hp.out).mono ?_
    rintro e w27 ⟨rfl, hb27⟩
    have tp := Lib.hid (hp.out.below hb27); clear hp; have hp := tp; clear tp
    have ti := Lib.hid (hi.out.below hb27); clear hi; have hi := ti; clear ti
    have hB27 : Below w.heap.size w w27 := hB26.trans (hb27.mono hB26.size)
    clear hb27
    go_wp2_with fail
    refine (HIsS.out _ hp.out).mono ?_
    rintro e w28 ⟨rfl, hb28⟩
    have tp := Lib.hid (hp.out.below hb28); clear hp; have hp := tp; clear tp
    have ti := Lib.hid (hi.out.below hb28); clear hi; have hi := ti; clear ti
    have hB28 : Below w.heap.size w w28 := hB27.trans (hb28.mono hB27.size)
    clear hb28
    go_wp2_with fail
    refine (HTI.out _ hp.out).mono ?_
    rintro e w29 ⟨rfl, hb29⟩
    have tp := Lib.hid (hp.out.below hb29); clear hp; have hp := tp; clear tp
    have ti := Lib.hid (hi.out.below hb29); clear hi; have hi := ti; clear ti
    have hB29 : Below w.heap.size w w29 := hB28.trans (hb29.mono hB28.size)
    clear hb29
    cases b with
    | true =>
      have ePT := HPT.out rfl
      rw [ePT] at HPR
      have hP8 := HPX.out rfl
      have HCI := Lib.hid (compP_inv hP8)
      have HPA : Hid (decide (PatOk xp) = true ∧ patP xp = xp) := by have h1 : PatOk xp := ⟨hP8.1, hP8.2.2⟩; exact ⟨decide_eq_true h1, by unfold patP; rw [if_pos h1, pat_of_perm hP8.2]⟩
      have hx8 : xp.length ≤ 8 := hP8.1
      clear ePT hP8
      go_wp2_with fail
      refine (HPR.out _).mono ?_
      rintro e w30 ⟨azz, nzz, czz, rfl, ho, hb30⟩
      have tp := Lib.hid (hp.out.below hb30); clear hp; have hp := tp; clear tp
      have ti := Lib.hid (hi.out.below hb30); clear hi; have hi := ti; clear ti
      have hB30 : Below w.heap.size w w30 := hB29.trans (hb30.mono hB29.size)
      have hzz := Lib.hid (ho.sl (by have h1 := ho.1; have h2 := hx8; omega)); clear ho
      clear hb30
      go_wp2_with fail
      refine (HTS.out _ hp.out).mono ?_
      rintro e w31 ⟨rfl, hb31⟩
      have tp := Lib.hid (hp.out.below hb31); clear hp; have hp := tp; clear tp
      have ti := Lib.hid (hi.out.below hb31); clear hi; have hi := ti; clear ti
      have tzz := Lib.hid (hzz.out.below hb31); clear hzz; have hzz := tzz; clear tzz
      have hB31 : Below w.heap.size w w31 := hB30.trans (hb31.mono hB30.size)
      clear hb31
      go_wp2_with fail
      refine (HIsS.out _ hp.out).mono ?_
      rintro e w32 ⟨rfl, hb32⟩
      have tp := Lib.hid (hp.out.below hb32); clear hp; have hp := tp; clear tp
      have ti := Lib.hid (hi.out.below hb32); clear hi; have hi := ti; clear ti
      have tzz := Lib.hid (hzz.out.below hb32); clear hzz; have hzz := tzz; clear tzz
      have hB32 : Below w.heap.size w w32 := hB31.trans (hb32.mono hB31.size)
      clear hb32
      go_wp2_with fail
      refine (sameInts_same azz (some ⟨gp, 0, none⟩) nzz np czz cp _ _ hzz.out hp.out).mono ?_
      rintro e w33 ⟨rfl, hb33⟩
      have tp := Lib.hid (hp.out.below hb33); clear hp; have hp := tp; clear tp
      have ti := Lib.hid (hi.out.below hb33); clear hi; have hi := ti; clear ti
      have tzz := Lib.hid (hzz.out.below hb33); clear hzz; have hzz := tzz; clear tzz
      have hB33 : Below w.heap.size w w33 := hB32.trans (hb33.mono hB32.size)
      clear hb33
      have hCC := fun W (h1 : SlI W (some ⟨gp, 0, none⟩) np cp xp) (h2 : SlI W ai ni ci (invP xp)) => impl_ComposePerm (some ⟨gp, 0, none⟩) np cp xp ai ni ci (invP xp) W h1 h2
      rw [decide_eq_true HCI.out.1] at hCC
      have HCC := Lib.hid hCC; clear hCC
      go_wp2_with fail
      refine (HCC.out _ hp.out hi.out).mono ?_
      rintro e w34 ⟨au, nu, cu, rfl, ho, hb34⟩
      have tp := Lib.hid (hp.out.below hb34); clear hp; have hp := tp; clear tp
      have ti := Lib.hid (hi.out.below hb34); clear hi; have hi := ti; clear ti
      have tzz := Lib.hid (hzz.out.below hb34); clear hzz; have hzz := tzz; clear tzz
      have hB34 : Below w.heap.size w w34 := hB33.trans (hb34.mono hB33.size)
      have hu := Lib.hid (ho.sl (by have h1 := ho.1; have h2 := length_compP xp (invP xp); omega)); clear ho
      clear hb34
      have hQ := fun W (h1 : SlI W (some ⟨gp, 0, none⟩) np cp xp) => impl_PatternOf (some ⟨gp, 0, none⟩) np cp xp W h1
      rw [HPA.out.1, HPA.out.2] at hQ
      have HQ := Lib.hid hQ; clear hQ
      go_wp2_with fail
      refine (HQ.out _ hp.out).mono ?_
      rintro e w35 ⟨av, nv, cv, rfl, ho, hb35⟩
      have tp := Lib.hid (hp.out.below hb35); clear hp; have hp := tp; clear tp
      have ti := Lib.hid (hi.out.below hb35); clear hi; have hi := ti; clear ti
      have tzz := Lib.hid (hzz.out.below hb35); clear hzz; have hzz := tzz; clear tzz
      have tu := Lib.hid (hu.out.below hb35); clear hu; have hu := tu; clear tu
      have hB35 : Below w.heap.size w w35 := hB34.trans (hb35.mono hB34.size)
      have hv := Lib.hid (ho.sl (by have h1 := ho.1; have h2 := hx8; omega)); clear ho
      clear hb35
      go_wp2_with fail
      refine (straight_any au nu cu _ _ hu.out HCI.out.2).mono ?_
      rintro e w36 ⟨rfl, hb36⟩
      have tp := Lib.hid (hp.out.below hb36); clear hp; have hp := tp; clear tp
      have ti := Lib.hid (hi.out.below hb36); clear hi; have hi := ti; clear ti
      have tzz := Lib.hid (hzz.out.below hb36); clear hzz; have hzz := tzz; clear tzz
      have tu := Lib.hid (hu.out.below hb36); clear hu; have hu := tu; clear tu
      have tv := Lib.hid (hv.out.below hb36); clear hv; have hv := tv; clear tv
      have hB36 : Below w.heap.size w w36 := hB35.trans (hb36.mono hB35.size)
      clear hb36
      go_wp2_with fail
      refine (sameInts_same av (some ⟨gp, 0, none⟩) nv np cv cp _ _ hv.out hp.out).mono ?_
      rintro e w37 ⟨rfl, hb37⟩
      have tp := Lib.hid (hp.out.below hb37); clear hp; have hp := tp; clear tp
      have ti := Lib.hid (hi.out.below hb37); clear hi; have hi := ti; clear ti
      have tzz := Lib.hid (hzz.out.below hb37); clear hzz; have hzz := tzz; clear tzz
      have tu := Lib.hid (hu.out.below hb37); clear hu; have hu := tu; clear tu
      have tv := Lib.hid (hv.out.below hb37); clear hv; have hv := tv; clear tv
      have hB37 : Below w.heap.size w w37 := hB36.trans (hb37.mono hB36.size)
      clear hb37
      go_wp2
      go_ret
      exact ⟨rfl, hB37⟩
    | false =>
      have hprs : (prsP T).length ≤ 9 := Nat.le_trans (length_prsP T) hTs
      go_wp2_with fail
      refine (HPR.out _).mono ?_
      rintro e w30 ⟨azz, nzz, czz, rfl, ho, hb30⟩
      have tp := Lib.hid (hp.out.below hb30); clear hp; have hp := tp; clear tp
      have ti := Lib.hid (hi.out.below hb30); clear hi; have hi := ti; clear ti
      have hB30 : Below w.heap.size w w30 := hB29.trans (hb30.mono hB29.size)
      have hzz := Lib.hid (ho.sl (by have h1 := ho.1; have h2 := hprs; omega)); clear ho
      clear hb30
      go_wp2_with fail
      refine (HTS.out _ hp.out).mono ?_
      rintro e w31 ⟨rfl, hb31⟩
      have tp := Lib.hid (hp.out.below hb31); clear hp; have hp := tp; clear tp
      have ti := Lib.hid (hi.out.below hb31); clear hi; have hi := ti; clear ti
      have tzz := Lib.hid (hzz.out.below hb31); clear hzz; have hzz := tzz; clear tzz
      have hB31 : Below w.heap.size w w31 := hB30.trans (hb31.mono hB30.size)
      clear hb31
      go_wp2_with fail
      refine (HIsS.out _ hp.out).mono ?_
      rintro e w32 ⟨rfl, hb32⟩
      have tp := Lib.hid (hp.out.below hb32); clear hp; have hp := tp; clear tp
      have ti := Lib.hid (hi.out.below hb32); clear hi; have hi := ti; clear ti
      have tzz := Lib.hid (hzz.out.below hb32); clear hzz; have hzz := tzz; clear tzz
      have hB32 : Below w.heap.size w w32 := hB31.trans (hb32.mono hB31.size)
      clear hb32
      go_wp2
      go_ret
      exact ⟨rfl, hB32⟩
end Go.Proofs.Ytjhlianledgiiaa
