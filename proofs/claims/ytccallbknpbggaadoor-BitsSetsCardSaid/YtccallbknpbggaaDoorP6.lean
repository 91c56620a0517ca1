/- Texts of the proof: BitsL6, BitsL7. -/
import Derived.Test.YtccallbknpbggaaDoorP0
import Derived.Test.YtccallbknpbggaaDoorP1
import Derived.Test.YtccallbknpbggaaDoorP2
import Derived.Test.YtccallbknpbggaaDoorP3
import Derived.Test.YtccallbknpbggaaDoorP4
import Derived.Test.YtccallbknpbggaaDoorP5
set_option linter.all false
set_option maxRecDepth 100000
namespace Go.Proofs.YtccallbknpbggaaDoor
open Go.AM
section
variable {CT : Nat → Option CFun}
theorem sets_r9 (h : TD CT) {A0 : Heap} {ix jx iy jy iz jz iu ju im jm iw jw : Nat} {px py pz pu pm pw : WS} (sx : SetP A0 ix jx px) (sy : SetP A0 iy jy py) (sz : SetP A0 iz jz pz) (su : SetP A0 iu ju pu) (sm : SetP A0 im jm pm) (sw : SetP A0 iw jw pw) (cx : cnt px ≤ 4000) (cy : cnt py ≤ 4000) (cz : cnt pz ≤ 4000) (cu : cnt pu ≤ 4000) (cm : cnt pm ≤ 4000) (cw : cnt pw ≤ 4000) (hu : ∀ n, n ∈ el pu ↔ n ∈ el px ∨ n ∈ el py) (hm : ∀ n, n ∈ el pm ↔ n ∈ el px ∧ n ∉ el py) (hw : ∀ n, n ∈ el pw ↔ n ∈ el px ∧ n ∈ el py) (c1 : cnt pm + cnt pw = cnt px) (c2 : cnt pu + cnt pw = cnt px + cnt py) :
    ∃ B, evC (callW CT) itW 0 (.region s_gnomonlaw01_BitsSets_r9 [] [13, 90, 91, 92, 93, 94, 95, 96, 97, 98, 99, 100, 101, 102, 103, 104, 105, 106, 107, 108, 109, 110, 111, 112, 113, 114, 115, 116, 117, 118, 119, 120, 121, 122, 123, 124, 125, 126, 127, 128, 129, 130, 131, 132, 133, 134, 135, 136, 137, 138, 139, 140, 141, 142, 143, 144, 145, 146, 147, 148, 149, 150, 151, 152, 153, 154]) (frOf 256 [(9, .ref ix 0 0), (10, .ref iy 0 0), (11, .ref iz 0 0), (12, .ref iu 0 0), (13, .s (.bool (decide ((cnt pu : Int) > (cnt px : Int))))), (14, .ref im 0 0), (15, .ref iw 0 0), (90, .s (.bool false))]) A0 = some (.nrm, frOf 256 [(9, .ref ix 0 0), (10, .ref iy 0 0), (11, .ref iz 0 0), (12, .ref iu 0 0), (14, .ref im 0 0), (15, .ref iw 0 0), (155, .s (.bool false))], B) ∧ KeepD A0.length [] A0 B := by
  have dx := SetW.lt sx
  have dy := SetW.lt sy
  have dz := SetW.lt sz
  have du := SetW.lt su
  have dm := SetW.lt sm
  have dw := SetW.lt sw
  have n00 : ((((0 : Nat) : Nat) : Int) != 0) = false := rfl
  have hw1 : IntKind.i64.wrap ((cnt pm : Int) + (cnt pw : Int)) = (cnt px : Int) := by rw [wrap_i64_id (by omega) (by omega)]; omega
  have hw2 : IntKind.i64.wrap ((cnt pu : Int) + (cnt pw : Int)) = ((cnt px + cnt py : Nat) : Int) := by rw [wrap_i64_id (by omega) (by omega)]; omega
  have hw3 : IntKind.i64.wrap ((cnt px : Int) + (cnt py : Int)) = ((cnt px + cnt py : Nat) : Int) := by rw [wrap_i64_id (by omega) (by omega)]; omega
  have f1 := fun base => len_fun h.len base su
  have f2 := fun base => len_fun h.len base sx
  obtain ⟨r3, A1, eA1, zr3, kA1⟩ := in_P h.toTC 0 sx (by omega) (AtV.set h.toTB su) (Nat.zero_le _)
  have zr3 := zr3.trans (in_iff sx.wd su.wd)
  have yr3 : r3 = true := zr3.2 (fun n hn => (hu n).2 (.inl hn))
  subst yr3
  have sx := kA1.s sx
  have sy := kA1.s sy
  have sz := kA1.s sz
  have su := kA1.s su
  have sm := kA1.s sm
  have sw := kA1.s sw
  have lA1 := kA1.1
  obtain ⟨r4, A2, eA2, zr4, kA2⟩ := in_P h.toTC 0 sy (by omega) (AtV.set h.toTB su) (Nat.zero_le _)
  have zr4 := zr4.trans (in_iff sy.wd su.wd)
  have yr4 : r4 = true := zr4.2 (fun n hn => (hu n).2 (.inr hn))
  subst yr4
  have sx := kA2.s sx
  have sy := kA2.s sy
  have sz := kA2.s sz
  have su := kA2.s su
  have sm := kA2.s sm
  have sw := kA2.s sw
  have lA2 := kA2.1
  obtain ⟨r5, A3, eA3, zr5, kA3⟩ := in_P h.toTC 0 sx (by omega) (AtV.set h.toTB sz) (Nat.zero_le _)
  have zr5 := zr5.trans (in_iff sx.wd sz.wd)
  have sx := kA3.s sx
  have sy := kA3.s sy
  have sz := kA3.s sz
  have su := kA3.s su
  have sm := kA3.s sm
  have sw := kA3.s sw
  have lA3 := kA3.1
  cases r5 with
  | false =>
    have mA4 := cnt_both sm.wd sw.wd
    obtain ⟨it, jt, A4, eA4, st, kA4, gt, qt⟩ := both_P h.toTC 0 sm (by omega) (AtV.set h.toTB sw) (Nat.zero_le _)
    have sx := kA4.s sx
    have sy := kA4.s sy
    have sz := kA4.s sz
    have su := kA4.s su
    have sm := kA4.s sm
    have sw := kA4.s sw
    have ct := mA4
    have dt := SetW.lt st
    have lA4 := kA4.1
    have t00 : el (pickP pm pw.2 (· &&& ·)) = [] := List.eq_nil_iff_forall_not_mem.2 fun n hn => ((hm n).1 ((mem_both sm.wd sw.wd).1 hn).1).2 ((hw n).1 ((mem_both sm.wd sw.wd).1 hn).2).2
    have t0 : cnt (pickP pm pw.2 (· &&& ·)) = 0 := by rw [← el_len, t00]; rfl
    have f6 := fun base => len_fun h.len base st
    rw [t0] at f6
    have f7 := fun base => len_fun h.len base sm
    have f8 := fun base => len_fun h.len base sw
    have f9 := fun base => len_fun h.len base sx
    have f10 := fun base => len_fun h.len base su
    have f11 := fun base => len_fun h.len base sy
    refine ⟨A4, ?_, ⟨by omega, fun id h1 _ => by rw [kA4.2 id (by omega) (by simp), kA3.2 id (by omega) (by simp), kA2.2 id (by omega) (by simp), kA1.2 id (by omega) (by simp)]⟩⟩
    simp only [s_gnomonlaw01_BitsSets_r9p0_tale, s_gnomonlaw01_BitsSets_r9_x, s_gnomonlaw01_BitsSets_r9t1_x, s_gnomonlaw01_BitsSets_r9p2_tale, s_gnomonlaw01_BitsSets_r9t2_x, s_gnomonlaw01_BitsSets_r9t3_x, s_gnomonlaw01_BitsSets_r9p4_tale, s_gnomonlaw01_BitsSets_r9t4_x, s_gnomonlaw01_BitsSets_r9t5_x, s_gnomonlaw01_BitsSets_r9t6_x, s_gnomonlaw01_BitsSets_r9t7_x, s_gnomonlaw01_BitsSets_r9p8_tale, s_gnomonlaw01_BitsSets_r9t8_x, s_gnomonlaw01_BitsSets_r9t9_x, s_gnomonlaw01_BitsSets_r9t10_x, s_gnomonlaw01_BitsSets_r9t11_x, s_gnomonlaw01_BitsSets_r9p12_tale, s_gnomonlaw01_BitsSets_r9t12_x, s_gnomonlaw01_BitsSets_r9t13_x, s_gnomonlaw01_BitsSets_r9t14_x, s_gnomonlaw01_BitsSets_r9t15_x, s_gnomonlaw01_BitsSets_r9t16_x, s_gnomonlaw01_BitsSets_r9t17_x, s_gnomonlaw01_BitsSets_r9t18_x, s_gnomonlaw01_BitsSets_r9t19_x, s_gnomonlaw01_BitsSets_r9t20_x, s_gnomonlaw01_BitsSets_r9t21_x, s_gnomonlaw01_BitsSets_r9t22_x, s_gnomonlaw01_BitsSets_r9t23_x, s_gnomonlaw01_BitsSets_r9t24_x, s_gnomonlaw01_BitsSets_r9p25_tale, s_gnomonlaw01_BitsSets_r9t25_x, s_gnomonlaw01_BitsSets_r9t26_x, s_gnomonlaw01_BitsSets_r9t27_x, s_gnomonlaw01_BitsSets_r9t28_x, s_gnomonlaw01_BitsSets_r9t29_x, s_gnomonlaw01_BitsSets_r9p30_tale, s_gnomonlaw01_BitsSets_r9t30_x, s_gnomonlaw01_BitsSets_r9t31_x, s_gnomonlaw01_BitsSets_r9t32_x, s_gnomonlaw01_BitsSets_r9t33_x, s_gnomonlaw01_BitsSets_r9t34_x, s_gnomonlaw01_BitsSets_r9t35_x, s_gnomonlaw01_BitsSets_r9t36_x, s_gnomonlaw01_BitsSets_r9t37_x, s_gnomonlaw01_BitsSets_r9p38_tale, s_gnomonlaw01_BitsSets_r9t38_x, s_gnomonlaw01_BitsSets_r9t39_x, s_gnomonlaw01_BitsSets_r9t40_x, s_gnomonlaw01_BitsSets_r9t41_x, s_gnomonlaw01_BitsSets_r9t42_x, s_gnomonlaw01_BitsSets_r9t43_x, s_gnomonlaw01_BitsSets_r9t44_x, s_gnomonlaw01_BitsSets_r9t45_x, s_gnomonlaw01_BitsSets_r9t46_x, s_gnomonlaw01_BitsSets_r9t47_x, s_gnomonlaw01_BitsSets_r9t48_tale, s_gnomonlaw01_BitsSets_r9t48_x, am0,am1,am2,am3,am4,am5,am6,am7,bl,i64,reduceIte,reduceCtorEq,Nat.reduceEqDiff,Nat.reduceLT,Nat.reduceLeDiff,Nat.reduceBEq,Nat.reduceAdd,fillA,splice,Nat.reduceMul,al0,al1,al2,al3,al4,al5,al6,al7,al8,al9,al10,al11,al12,al13,al14,al15,al16,al17,al18,al19,al20,al21,al22,al23,al24,al25,al26,al27,al28,al29,al30,al31,al32,al33,al34,amY, n00, hw1, hw2, hw3, f1, f2, eA1, eA2, eA3, eA4, f6, f7, f8, f9, f10, f11]
    done
  | true =>
    obtain ⟨r6, A4, eA4, zr6, kA4⟩ := in_P h.toTC 0 sy (by omega) (AtV.set h.toTB sz) (Nat.zero_le _)
    have zr6 := zr6.trans (in_iff sy.wd sz.wd)
    have sx := kA4.s sx
    have sy := kA4.s sy
    have sz := kA4.s sz
    have su := kA4.s su
    have sm := kA4.s sm
    have sw := kA4.s sw
    have lA4 := kA4.1
    cases r6 with
    | false =>
      have mA5 := cnt_both sm.wd sw.wd
      obtain ⟨it, jt, A5, eA5, st, kA5, gt, qt⟩ := both_P h.toTC 0 sm (by omega) (AtV.set h.toTB sw) (Nat.zero_le _)
      have sx := kA5.s sx
      have sy := kA5.s sy
      have sz := kA5.s sz
      have su := kA5.s su
      have sm := kA5.s sm
      have sw := kA5.s sw
      have ct := mA5
      have dt := SetW.lt st
      have lA5 := kA5.1
      have t00 : el (pickP pm pw.2 (· &&& ·)) = [] := List.eq_nil_iff_forall_not_mem.2 fun n hn => ((hm n).1 ((mem_both sm.wd sw.wd).1 hn).1).2 ((hw n).1 ((mem_both sm.wd sw.wd).1 hn).2).2
      have t0 : cnt (pickP pm pw.2 (· &&& ·)) = 0 := by rw [← el_len, t00]; rfl
      have f7 := fun base => len_fun h.len base st
      rw [t0] at f7
      have f8 := fun base => len_fun h.len base sm
      have f9 := fun base => len_fun h.len base sw
      have f10 := fun base => len_fun h.len base sx
      have f11 := fun base => len_fun h.len base su
      have f12 := fun base => len_fun h.len base sy
      refine ⟨A5, ?_, ⟨by omega, fun id h1 _ => by rw [kA5.2 id (by omega) (by simp), kA4.2 id (by omega) (by simp), kA3.2 id (by omega) (by simp), kA2.2 id (by omega) (by simp), kA1.2 id (by omega) (by simp)]⟩⟩
      simp only [s_gnomonlaw01_BitsSets_r9p0_tale, s_gnomonlaw01_BitsSets_r9_x, s_gnomonlaw01_BitsSets_r9t1_x, s_gnomonlaw01_BitsSets_r9p2_tale, s_gnomonlaw01_BitsSets_r9t2_x, s_gnomonlaw01_BitsSets_r9t3_x, s_gnomonlaw01_BitsSets_r9p4_tale, s_gnomonlaw01_BitsSets_r9t4_x, s_gnomonlaw01_BitsSets_r9t5_x, s_gnomonlaw01_BitsSets_r9t6_x, s_gnomonlaw01_BitsSets_r9t7_x, s_gnomonlaw01_BitsSets_r9p8_tale, s_gnomonlaw01_BitsSets_r9t8_x, s_gnomonlaw01_BitsSets_r9t9_x, s_gnomonlaw01_BitsSets_r9t10_x, s_gnomonlaw01_BitsSets_r9t11_x, s_gnomonlaw01_BitsSets_r9p12_tale, s_gnomonlaw01_BitsSets_r9t12_x, s_gnomonlaw01_BitsSets_r9t13_x, s_gnomonlaw01_BitsSets_r9t14_x, s_gnomonlaw01_BitsSets_r9t15_x, s_gnomonlaw01_BitsSets_r9t16_x, s_gnomonlaw01_BitsSets_r9t17_x, s_gnomonlaw01_BitsSets_r9t18_x, s_gnomonlaw01_BitsSets_r9t19_x, s_gnomonlaw01_BitsSets_r9t20_x, s_gnomonlaw01_BitsSets_r9t21_x, s_gnomonlaw01_BitsSets_r9t22_x, s_gnomonlaw01_BitsSets_r9t23_x, s_gnomonlaw01_BitsSets_r9t24_x, s_gnomonlaw01_BitsSets_r9p25_tale, s_gnomonlaw01_BitsSets_r9t25_x, s_gnomonlaw01_BitsSets_r9t26_x, s_gnomonlaw01_BitsSets_r9t27_x, s_gnomonlaw01_BitsSets_r9t28_x, s_gnomonlaw01_BitsSets_r9t29_x, s_gnomonlaw01_BitsSets_r9p30_tale, s_gnomonlaw01_BitsSets_r9t30_x, s_gnomonlaw01_BitsSets_r9t31_x, s_gnomonlaw01_BitsSets_r9t32_x, s_gnomonlaw01_BitsSets_r9t33_x, s_gnomonlaw01_BitsSets_r9t34_x, s_gnomonlaw01_BitsSets_r9t35_x, s_gnomonlaw01_BitsSets_r9t36_x, s_gnomonlaw01_BitsSets_r9t37_x, s_gnomonlaw01_BitsSets_r9p38_tale, s_gnomonlaw01_BitsSets_r9t38_x, s_gnomonlaw01_BitsSets_r9t39_x, s_gnomonlaw01_BitsSets_r9t40_x, s_gnomonlaw01_BitsSets_r9t41_x, s_gnomonlaw01_BitsSets_r9t42_x, s_gnomonlaw01_BitsSets_r9t43_x, s_gnomonlaw01_BitsSets_r9t44_x, s_gnomonlaw01_BitsSets_r9t45_x, s_gnomonlaw01_BitsSets_r9t46_x, s_gnomonlaw01_BitsSets_r9t47_x, s_gnomonlaw01_BitsSets_r9t48_tale, s_gnomonlaw01_BitsSets_r9t48_x, am0,am1,am2,am3,am4,am5,am6,am7,bl,i64,reduceIte,reduceCtorEq,Nat.reduceEqDiff,Nat.reduceLT,Nat.reduceLeDiff,Nat.reduceBEq,Nat.reduceAdd,fillA,splice,Nat.reduceMul,al0,al1,al2,al3,al4,al5,al6,al7,al8,al9,al10,al11,al12,al13,al14,al15,al16,al17,al18,al19,al20,al21,al22,al23,al24,al25,al26,al27,al28,al29,al30,al31,al32,al33,al34,amY, n00, hw1, hw2, hw3, f1, f2, eA1, eA2, eA3, eA4, eA5, f7, f8, f9, f10, f11, f12]
      done
    | true =>
      obtain ⟨r7, A5, eA5, zr7, kA5⟩ := in_P h.toTC 0 su (by omega) (AtV.set h.toTB sz) (Nat.zero_le _)
      have zr7 := zr7.trans (in_iff su.wd sz.wd)
      have yr7 : r7 = true := zr7.2 (fun n hn => ((hu n).1 hn).elim (zr5.1 rfl n) (zr6.1 rfl n))
      subst yr7
      have sx := kA5.s sx
      have sy := kA5.s sy
      have sz := kA5.s sz
      have su := kA5.s su
      have sm := kA5.s sm
      have sw := kA5.s sw
      have lA5 := kA5.1
      have mA6 := cnt_both sm.wd sw.wd
      obtain ⟨it, jt, A6, eA6, st, kA6, gt, qt⟩ := both_P h.toTC 0 sm (by omega) (AtV.set h.toTB sw) (Nat.zero_le _)
      have sx := kA6.s sx
      have sy := kA6.s sy
      have sz := kA6.s sz
      have su := kA6.s su
      have sm := kA6.s sm
      have sw := kA6.s sw
      have ct := mA6
      have dt := SetW.lt st
      have lA6 := kA6.1
      have t00 : el (pickP pm pw.2 (· &&& ·)) = [] := List.eq_nil_iff_forall_not_mem.2 fun n hn => ((hm n).1 ((mem_both sm.wd sw.wd).1 hn).1).2 ((hw n).1 ((mem_both sm.wd sw.wd).1 hn).2).2
      have t0 : cnt (pickP pm pw.2 (· &&& ·)) = 0 := by rw [← el_len, t00]; rfl
      have f8 := fun base => len_fun h.len base st
      rw [t0] at f8
      have f9 := fun base => len_fun h.len base sm
      have f10 := fun base => len_fun h.len base sw
      have f11 := fun base => len_fun h.len base sx
      have f12 := fun base => len_fun h.len base su
      have f13 := fun base => len_fun h.len base sy
      refine ⟨A6, ?_, ⟨by omega, fun id h1 _ => by rw [kA6.2 id (by omega) (by simp), kA5.2 id (by omega) (by simp), kA4.2 id (by omega) (by simp), kA3.2 id (by omega) (by simp), kA2.2 id (by omega) (by simp), kA1.2 id (by omega) (by simp)]⟩⟩
      simp only [s_gnomonlaw01_BitsSets_r9p0_tale, s_gnomonlaw01_BitsSets_r9_x, s_gnomonlaw01_BitsSets_r9t1_x, s_gnomonlaw01_BitsSets_r9p2_tale, s_gnomonlaw01_BitsSets_r9t2_x, s_gnomonlaw01_BitsSets_r9t3_x, s_gnomonlaw01_BitsSets_r9p4_tale, s_gnomonlaw01_BitsSets_r9t4_x, s_gnomonlaw01_BitsSets_r9t5_x, s_gnomonlaw01_BitsSets_r9t6_x, s_gnomonlaw01_BitsSets_r9t7_x, s_gnomonlaw01_BitsSets_r9p8_tale, s_gnomonlaw01_BitsSets_r9t8_x, s_gnomonlaw01_BitsSets_r9t9_x, s_gnomonlaw01_BitsSets_r9t10_x, s_gnomonlaw01_BitsSets_r9t11_x, s_gnomonlaw01_BitsSets_r9p12_tale, s_gnomonlaw01_BitsSets_r9t12_x, s_gnomonlaw01_BitsSets_r9t13_x, s_gnomonlaw01_BitsSets_r9t14_x, s_gnomonlaw01_BitsSets_r9t15_x, s_gnomonlaw01_BitsSets_r9t16_x, s_gnomonlaw01_BitsSets_r9t17_x, s_gnomonlaw01_BitsSets_r9t18_x, s_gnomonlaw01_BitsSets_r9t19_x, s_gnomonlaw01_BitsSets_r9t20_x, s_gnomonlaw01_BitsSets_r9t21_x, s_gnomonlaw01_BitsSets_r9t22_x, s_gnomonlaw01_BitsSets_r9t23_x, s_gnomonlaw01_BitsSets_r9t24_x, s_gnomonlaw01_BitsSets_r9p25_tale, s_gnomonlaw01_BitsSets_r9t25_x, s_gnomonlaw01_BitsSets_r9t26_x, s_gnomonlaw01_BitsSets_r9t27_x, s_gnomonlaw01_BitsSets_r9t28_x, s_gnomonlaw01_BitsSets_r9t29_x, s_gnomonlaw01_BitsSets_r9p30_tale, s_gnomonlaw01_BitsSets_r9t30_x, s_gnomonlaw01_BitsSets_r9t31_x, s_gnomonlaw01_BitsSets_r9t32_x, s_gnomonlaw01_BitsSets_r9t33_x, s_gnomonlaw01_BitsSets_r9t34_x, s_gnomonlaw01_BitsSets_r9t35_x, s_gnomonlaw01_BitsSets_r9t36_x, s_gnomonlaw01_BitsSets_r9t37_x, s_gnomonlaw01_BitsSets_r9p38_tale, s_gnomonlaw01_BitsSets_r9t38_x, s_gnomonlaw01_BitsSets_r9t39_x, s_gnomonlaw01_BitsSets_r9t40_x, s_gnomonlaw01_BitsSets_r9t41_x, s_gnomonlaw01_BitsSets_r9t42_x, s_gnomonlaw01_BitsSets_r9t43_x, s_gnomonlaw01_BitsSets_r9t44_x, s_gnomonlaw01_BitsSets_r9t45_x, s_gnomonlaw01_BitsSets_r9t46_x, s_gnomonlaw01_BitsSets_r9t47_x, s_gnomonlaw01_BitsSets_r9t48_tale, s_gnomonlaw01_BitsSets_r9t48_x, am0,am1,am2,am3,am4,am5,am6,am7,bl,i64,reduceIte,reduceCtorEq,Nat.reduceEqDiff,Nat.reduceLT,Nat.reduceLeDiff,Nat.reduceBEq,Nat.reduceAdd,fillA,splice,Nat.reduceMul,al0,al1,al2,al3,al4,al5,al6,al7,al8,al9,al10,al11,al12,al13,al14,al15,al16,al17,al18,al19,al20,al21,al22,al23,al24,al25,al26,al27,al28,al29,al30,al31,al32,al33,al34,amY, n00, hw1, hw2, hw3, f1, f2, eA1, eA2, eA3, eA4, eA5, eA6, f8, f9, f10, f11, f12, f13]
      done
theorem sets_r13 (h : TD CT) {A0 : Heap} {ix jx iy jy iz jz iu ju im jm ib jb : Nat} {px py pz pu pm pb : WS} (sx : SetP A0 ix jx px) (sy : SetP A0 iy jy py) (sz : SetP A0 iz jz pz) (su : SetP A0 iu ju pu) (sm : SetP A0 im jm pm) (sb : SetP A0 ib jb pb) (cx : cnt px ≤ 4000) (cy : cnt py ≤ 4000) (cz : cnt pz ≤ 4000) (cu : cnt pu ≤ 4000) (cm : cnt pm ≤ 4000) (cb : cnt pb ≤ 4000) (hm : ∀ n, n ∈ el pm ↔ n ∈ el px ∧ n ∉ el py) (hb : ∀ n, n ∈ el pb ↔ n ∈ el px) :
    ∃ B, evC (callW CT) itW 0 (.region s_gnomonlaw01_BitsSets_r13 [] [9, 10, 11, 14, 16, 161, 162, 163, 164, 165, 166, 167, 168, 169, 170, 171, 172, 173, 174, 175, 176, 177, 178, 179, 180, 181, 182, 183, 184, 185, 186, 187, 188, 189, 190, 191, 192, 193, 194, 195, 196, 197, 198, 199, 200, 201, 202]) (frOf 256 [(9, .ref ix 0 0), (10, .ref iy 0 0), (11, .ref iz 0 0), (12, .ref iu 0 0), (14, .ref im 0 0), (16, .ref ib 0 0)]) A0 = some (.nrm, frOf 256 [(12, .ref iu 0 0), (203, .s (.bool false))], B) ∧ KeepD A0.length [] A0 B := by
  have dx := SetW.lt sx
  have dy := SetW.lt sy
  have dz := SetW.lt sz
  have du := SetW.lt su
  have dm := SetW.lt sm
  have db := SetW.lt sb
  obtain ⟨r1, A1, eA1, zr1, kA1⟩ := same_P h.toTC 0 sb (by omega) (AtV.set h.toTB sx) (LenV.set h.toTB sx) (Nat.zero_le _)
  have zr1 := zr1.trans (same_iff sb.wd sx.wd)
  have yr1 : r1 = true := zr1.2 (el_ext sb.wd sx.wd hb)
  subst yr1
  have sx := kA1.s sx
  have sy := kA1.s sy
  have sz := kA1.s sz
  have su := kA1.s su
  have sm := kA1.s sm
  have sb := kA1.s sb
  have lA1 := kA1.1
  obtain ⟨r2, A2, eA2, zr2, kA2⟩ := in_P h.toTC 0 sx (by omega) (AtV.set h.toTB sy) (Nat.zero_le _)
  have zr2 := zr2.trans (in_iff sx.wd sy.wd)
  have sx := kA2.s sx
  have sy := kA2.s sy
  have sz := kA2.s sz
  have su := kA2.s su
  have sm := kA2.s sm
  have sb := kA2.s sb
  have lA2 := kA2.1
  have f3 := fun base => len_fun h.len base sm
  cases r2 with
  | false =>
    have no : ¬ ∀ n ∈ el px, n ∈ el py := fun hh => by have := zr2.2 hh; cases this
    have hg : ((cnt pm : Int) == 0) = false := by
      cases hc : ((cnt pm : Int) == 0)
      · rfl
      · exact (no fun n hn => by
          have h0 : cnt pm = 0 := by simpa using hc
          have e0 : el pm = [] := List.eq_nil_of_length_eq_zero (by rw [el_len]; exact h0)
          by_cases hy : n ∈ el py
          · exact hy
          · have := (hm n).2 ⟨hn, hy⟩
            rw [e0] at this; cases this).elim
    obtain ⟨r4, A3, eA3, zr4, kA3⟩ := same_P h.toTC 0 sx (by omega) (AtV.set h.toTB sy) (LenV.set h.toTB sy) (Nat.zero_le _)
    have zr4 := zr4.trans (same_iff sx.wd sy.wd)
    have sx := kA3.s sx
    have sy := kA3.s sy
    have sz := kA3.s sz
    have su := kA3.s su
    have sm := kA3.s sm
    have sb := kA3.s sb
    have lA3 := kA3.1
    have yr4 : r4 = false := by
      cases r4
      · rfl
      · exact absurd (fun n hn => by rw [← zr4.1 rfl]; exact hn) no
    subst yr4
    obtain ⟨r5, A4, eA4, zr5, kA4⟩ := in_P h.toTC 0 sx (by omega) (AtV.set h.toTB sy) (Nat.zero_le _)
    have zr5 := zr5.trans (in_iff sx.wd sy.wd)
    have sx := kA4.s sx
    have sy := kA4.s sy
    have sz := kA4.s sz
    have su := kA4.s su
    have sm := kA4.s sm
    have sb := kA4.s sb
    have lA4 := kA4.1
    have yr5 : r5 = false := by
      cases r5
      · rfl
      · exact absurd (zr5.1 rfl) (no)
    subst yr5
    obtain ⟨r6, A5, eA5, zr6, kA5⟩ := in_P h.toTC 0 sx (by omega) (AtV.set h.toTB sy) (Nat.zero_le _)
    have zr6 := zr6.trans (in_iff sx.wd sy.wd)
    have sx := kA5.s sx
    have sy := kA5.s sy
    have sz := kA5.s sz
    have su := kA5.s su
    have sm := kA5.s sm
    have sb := kA5.s sb
    have lA5 := kA5.1
    have yr6 : r6 = false := by
      cases r6
      · rfl
      · exact absurd (zr6.1 rfl) (no)
    subst yr6
    refine ⟨A5, ?_, ⟨by omega, fun id h1 _ => by rw [kA5.2 id (by omega) (by simp), kA4.2 id (by omega) (by simp), kA3.2 id (by omega) (by simp), kA2.2 id (by omega) (by simp), kA1.2 id (by omega) (by simp)]⟩⟩
    simp only [s_gnomonlaw01_BitsSets_r13p0_tale, s_gnomonlaw01_BitsSets_r13_x, s_gnomonlaw01_BitsSets_r13t1_x, s_gnomonlaw01_BitsSets_r13p2_tale, s_gnomonlaw01_BitsSets_r13t2_x, s_gnomonlaw01_BitsSets_r13t3_x, s_gnomonlaw01_BitsSets_r13t4_x, s_gnomonlaw01_BitsSets_r13t5_x, s_gnomonlaw01_BitsSets_r13t6_x, s_gnomonlaw01_BitsSets_r13t7_x, s_gnomonlaw01_BitsSets_r13p8_tale, s_gnomonlaw01_BitsSets_r13t8_x, s_gnomonlaw01_BitsSets_r13t9_x, s_gnomonlaw01_BitsSets_r13t10_x, s_gnomonlaw01_BitsSets_r13t11_x, s_gnomonlaw01_BitsSets_r13t12_x, s_gnomonlaw01_BitsSets_r13t13_x, s_gnomonlaw01_BitsSets_r13t14_x, s_gnomonlaw01_BitsSets_r13t15_x, s_gnomonlaw01_BitsSets_r13t16_x, s_gnomonlaw01_BitsSets_r13t17_x, s_gnomonlaw01_BitsSets_r13t18_x, s_gnomonlaw01_BitsSets_r13p19_tale, s_gnomonlaw01_BitsSets_r13t19_x, s_gnomonlaw01_BitsSets_r13t20_x, s_gnomonlaw01_BitsSets_r13t21_x, s_gnomonlaw01_BitsSets_r13t22_x, s_gnomonlaw01_BitsSets_r13t23_x, s_gnomonlaw01_BitsSets_r13t24_x, s_gnomonlaw01_BitsSets_r13t25_x, s_gnomonlaw01_BitsSets_r13t26_x, s_gnomonlaw01_BitsSets_r13t27_x, s_gnomonlaw01_BitsSets_r13t28_x, s_gnomonlaw01_BitsSets_r13t29_x, s_gnomonlaw01_BitsSets_r13t30_x, s_gnomonlaw01_BitsSets_r13t31_x, s_gnomonlaw01_BitsSets_r13t32_tale, s_gnomonlaw01_BitsSets_r13t32_x, am0,am1,am2,am3,am4,am5,am6,am7,bl,i64,reduceIte,reduceCtorEq,Nat.reduceEqDiff,Nat.reduceLT,Nat.reduceLeDiff,Nat.reduceBEq,Nat.reduceAdd,fillA,splice,Nat.reduceMul,al0,al1,al2,al3,al4,al5,al6,al7,al8,al9,al10,al11,al12,al13,al14,al15,al16,al17,al18,al19,al20,al21,al22,al23,al24,al25,al26,al27,al28,al29,al30,al31,al32,al33,al34,amY, hg, eA1, eA2, f3, eA3, eA4, eA5]
    done
  | true =>
    have yes : ∀ n ∈ el px, n ∈ el py := zr2.1 rfl
    have hg : ((cnt pm : Int) == 0) = true := by
      have e0 : el pm = [] := List.eq_nil_iff_forall_not_mem.2 fun n hn => ((hm n).1 hn).2 (yes n ((hm n).1 hn).1)
      have h0 : cnt pm = 0 := by rw [← el_len, e0]; rfl
      rw [h0]; rfl
    obtain ⟨r4, A3, eA3, zr4, kA3⟩ := same_P h.toTC 0 sx (by omega) (AtV.set h.toTB sy) (LenV.set h.toTB sy) (Nat.zero_le _)
    have zr4 := zr4.trans (same_iff sx.wd sy.wd)
    have sx := kA3.s sx
    have sy := kA3.s sy
    have sz := kA3.s sz
    have su := kA3.s su
    have sm := kA3.s sm
    have sb := kA3.s sb
    have lA3 := kA3.1
    obtain ⟨r5, A4, eA4, zr5, kA4⟩ := in_P h.toTC 0 sx (by omega) (AtV.set h.toTB sy) (Nat.zero_le _)
    have zr5 := zr5.trans (in_iff sx.wd sy.wd)
    have yr5 : r5 = true := zr5.2 (yes)
    subst yr5
    have sx := kA4.s sx
    have sy := kA4.s sy
    have sz := kA4.s sz
    have su := kA4.s su
    have sm := kA4.s sm
    have sb := kA4.s sb
    have lA4 := kA4.1
    obtain ⟨r6, A5, eA5, zr6, kA5⟩ := in_P h.toTC 0 sy (by omega) (AtV.set h.toTB sx) (Nat.zero_le _)
    have zr6 := zr6.trans (in_iff sy.wd sx.wd)
    have sx := kA5.s sx
    have sy := kA5.s sy
    have sz := kA5.s sz
    have su := kA5.s su
    have sm := kA5.s sm
    have sb := kA5.s sb
    have lA5 := kA5.1
    have yr4 : r4 = r6 := by
      rw [Bool.eq_iff_iff, zr4, zr6]
      exact ⟨fun e n hn => by rw [e]; exact hn, fun hh => el_ext sx.wd sy.wd fun n => ⟨yes n, hh n⟩⟩
    subst yr4
    obtain ⟨r7, A6, eA6, zr7, kA6⟩ := in_P h.toTC 0 sx (by omega) (AtV.set h.toTB sy) (Nat.zero_le _)
    have zr7 := zr7.trans (in_iff sx.wd sy.wd)
    have yr7 : r7 = true := zr7.2 (yes)
    subst yr7
    have sx := kA6.s sx
    have sy := kA6.s sy
    have sz := kA6.s sz
    have su := kA6.s su
    have sm := kA6.s sm
    have sb := kA6.s sb
    have lA6 := kA6.1
    obtain ⟨r8, A7, eA7, zr8, kA7⟩ := in_P h.toTC 0 sy (by omega) (AtV.set h.toTB sz) (Nat.zero_le _)
    have zr8 := zr8.trans (in_iff sy.wd sz.wd)
    have sx := kA7.s sx
    have sy := kA7.s sy
    have sz := kA7.s sz
    have su := kA7.s su
    have sm := kA7.s sm
    have sb := kA7.s sb
    have lA7 := kA7.1
    cases r8 with
    | false =>
      cases r4
      ·
        refine ⟨A7, ?_, ⟨by omega, fun id h1 _ => by rw [kA7.2 id (by omega) (by simp), kA6.2 id (by omega) (by simp), kA5.2 id (by omega) (by simp), kA4.2 id (by omega) (by simp), kA3.2 id (by omega) (by simp), kA2.2 id (by omega) (by simp), kA1.2 id (by omega) (by simp)]⟩⟩
        simp only [s_gnomonlaw01_BitsSets_r13p0_tale, s_gnomonlaw01_BitsSets_r13_x, s_gnomonlaw01_BitsSets_r13t1_x, s_gnomonlaw01_BitsSets_r13p2_tale, s_gnomonlaw01_BitsSets_r13t2_x, s_gnomonlaw01_BitsSets_r13t3_x, s_gnomonlaw01_BitsSets_r13t4_x, s_gnomonlaw01_BitsSets_r13t5_x, s_gnomonlaw01_BitsSets_r13t6_x, s_gnomonlaw01_BitsSets_r13t7_x, s_gnomonlaw01_BitsSets_r13p8_tale, s_gnomonlaw01_BitsSets_r13t8_x, s_gnomonlaw01_BitsSets_r13t9_x, s_gnomonlaw01_BitsSets_r13t10_x, s_gnomonlaw01_BitsSets_r13t11_x, s_gnomonlaw01_BitsSets_r13t12_x, s_gnomonlaw01_BitsSets_r13t13_x, s_gnomonlaw01_BitsSets_r13t14_x, s_gnomonlaw01_BitsSets_r13t15_x, s_gnomonlaw01_BitsSets_r13t16_x, s_gnomonlaw01_BitsSets_r13t17_x, s_gnomonlaw01_BitsSets_r13t18_x, s_gnomonlaw01_BitsSets_r13p19_tale, s_gnomonlaw01_BitsSets_r13t19_x, s_gnomonlaw01_BitsSets_r13t20_x, s_gnomonlaw01_BitsSets_r13t21_x, s_gnomonlaw01_BitsSets_r13t22_x, s_gnomonlaw01_BitsSets_r13t23_x, s_gnomonlaw01_BitsSets_r13t24_x, s_gnomonlaw01_BitsSets_r13t25_x, s_gnomonlaw01_BitsSets_r13t26_x, s_gnomonlaw01_BitsSets_r13t27_x, s_gnomonlaw01_BitsSets_r13t28_x, s_gnomonlaw01_BitsSets_r13t29_x, s_gnomonlaw01_BitsSets_r13t30_x, s_gnomonlaw01_BitsSets_r13t31_x, s_gnomonlaw01_BitsSets_r13t32_tale, s_gnomonlaw01_BitsSets_r13t32_x, am0,am1,am2,am3,am4,am5,am6,am7,bl,i64,reduceIte,reduceCtorEq,Nat.reduceEqDiff,Nat.reduceLT,Nat.reduceLeDiff,Nat.reduceBEq,Nat.reduceAdd,fillA,splice,Nat.reduceMul,al0,al1,al2,al3,al4,al5,al6,al7,al8,al9,al10,al11,al12,al13,al14,al15,al16,al17,al18,al19,al20,al21,al22,al23,al24,al25,al26,al27,al28,al29,al30,al31,al32,al33,al34,amY, hg, eA1, eA2, f3, eA3, eA4, eA5, eA6, eA7]
        done
      ·
        refine ⟨A7, ?_, ⟨by omega, fun id h1 _ => by rw [kA7.2 id (by omega) (by simp), kA6.2 id (by omega) (by simp), kA5.2 id (by omega) (by simp), kA4.2 id (by omega) (by simp), kA3.2 id (by omega) (by simp), kA2.2 id (by omega) (by simp), kA1.2 id (by omega) (by simp)]⟩⟩
        simp only [s_gnomonlaw01_BitsSets_r13p0_tale, s_gnomonlaw01_BitsSets_r13_x, s_gnomonlaw01_BitsSets_r13t1_x, s_gnomonlaw01_BitsSets_r13p2_tale, s_gnomonlaw01_BitsSets_r13t2_x, s_gnomonlaw01_BitsSets_r13t3_x, s_gnomonlaw01_BitsSets_r13t4_x, s_gnomonlaw01_BitsSets_r13t5_x, s_gnomonlaw01_BitsSets_r13t6_x, s_gnomonlaw01_BitsSets_r13t7_x, s_gnomonlaw01_BitsSets_r13p8_tale, s_gnomonlaw01_BitsSets_r13t8_x, s_gnomonlaw01_BitsSets_r13t9_x, s_gnomonlaw01_BitsSets_r13t10_x, s_gnomonlaw01_BitsSets_r13t11_x, s_gnomonlaw01_BitsSets_r13t12_x, s_gnomonlaw01_BitsSets_r13t13_x, s_gnomonlaw01_BitsSets_r13t14_x, s_gnomonlaw01_BitsSets_r13t15_x, s_gnomonlaw01_BitsSets_r13t16_x, s_gnomonlaw01_BitsSets_r13t17_x, s_gnomonlaw01_BitsSets_r13t18_x, s_gnomonlaw01_BitsSets_r13p19_tale, s_gnomonlaw01_BitsSets_r13t19_x, s_gnomonlaw01_BitsSets_r13t20_x, s_gnomonlaw01_BitsSets_r13t21_x, s_gnomonlaw01_BitsSets_r13t22_x, s_gnomonlaw01_BitsSets_r13t23_x, s_gnomonlaw01_BitsSets_r13t24_x, s_gnomonlaw01_BitsSets_r13t25_x, s_gnomonlaw01_BitsSets_r13t26_x, s_gnomonlaw01_BitsSets_r13t27_x, s_gnomonlaw01_BitsSets_r13t28_x, s_gnomonlaw01_BitsSets_r13t29_x, s_gnomonlaw01_BitsSets_r13t30_x, s_gnomonlaw01_BitsSets_r13t31_x, s_gnomonlaw01_BitsSets_r13t32_tale, s_gnomonlaw01_BitsSets_r13t32_x, am0,am1,am2,am3,am4,am5,am6,am7,bl,i64,reduceIte,reduceCtorEq,Nat.reduceEqDiff,Nat.reduceLT,Nat.reduceLeDiff,Nat.reduceBEq,Nat.reduceAdd,fillA,splice,Nat.reduceMul,al0,al1,al2,al3,al4,al5,al6,al7,al8,al9,al10,al11,al12,al13,al14,al15,al16,al17,al18,al19,al20,al21,al22,al23,al24,al25,al26,al27,al28,al29,al30,al31,al32,al33,al34,amY, hg, eA1, eA2, f3, eA3, eA4, eA5, eA6, eA7]
        done
    | true =>
      obtain ⟨r9, A8, eA8, zr9, kA8⟩ := in_P h.toTC 0 sx (by omega) (AtV.set h.toTB sz) (Nat.zero_le _)
      have zr9 := zr9.trans (in_iff sx.wd sz.wd)
      have yr9 : r9 = true := zr9.2 (fun n hn => zr8.1 rfl n (yes n hn))
      subst yr9
      have sx := kA8.s sx
      have sy := kA8.s sy
      have sz := kA8.s sz
      have su := kA8.s su
      have sm := kA8.s sm
      have sb := kA8.s sb
      have lA8 := kA8.1
      cases r4
      ·
        refine ⟨A8, ?_, ⟨by omega, fun id h1 _ => by rw [kA8.2 id (by omega) (by simp), kA7.2 id (by omega) (by simp), kA6.2 id (by omega) (by simp), kA5.2 id (by omega) (by simp), kA4.2 id (by omega) (by simp), kA3.2 id (by omega) (by simp), kA2.2 id (by omega) (by simp), kA1.2 id (by omega) (by simp)]⟩⟩
        simp only [s_gnomonlaw01_BitsSets_r13p0_tale, s_gnomonlaw01_BitsSets_r13_x, s_gnomonlaw01_BitsSets_r13t1_x, s_gnomonlaw01_BitsSets_r13p2_tale, s_gnomonlaw01_BitsSets_r13t2_x, s_gnomonlaw01_BitsSets_r13t3_x, s_gnomonlaw01_BitsSets_r13t4_x, s_gnomonlaw01_BitsSets_r13t5_x, s_gnomonlaw01_BitsSets_r13t6_x, s_gnomonlaw01_BitsSets_r13t7_x, s_gnomonlaw01_BitsSets_r13p8_tale, s_gnomonlaw01_BitsSets_r13t8_x, s_gnomonlaw01_BitsSets_r13t9_x, s_gnomonlaw01_BitsSets_r13t10_x, s_gnomonlaw01_BitsSets_r13t11_x, s_gnomonlaw01_BitsSets_r13t12_x, s_gnomonlaw01_BitsSets_r13t13_x, s_gnomonlaw01_BitsSets_r13t14_x, s_gnomonlaw01_BitsSets_r13t15_x, s_gnomonlaw01_BitsSets_r13t16_x, s_gnomonlaw01_BitsSets_r13t17_x, s_gnomonlaw01_BitsSets_r13t18_x, s_gnomonlaw01_BitsSets_r13p19_tale, s_gnomonlaw01_BitsSets_r13t19_x, s_gnomonlaw01_BitsSets_r13t20_x, s_gnomonlaw01_BitsSets_r13t21_x, s_gnomonlaw01_BitsSets_r13t22_x, s_gnomonlaw01_BitsSets_r13t23_x, s_gnomonlaw01_BitsSets_r13t24_x, s_gnomonlaw01_BitsSets_r13t25_x, s_gnomonlaw01_BitsSets_r13t26_x, s_gnomonlaw01_BitsSets_r13t27_x, s_gnomonlaw01_BitsSets_r13t28_x, s_gnomonlaw01_BitsSets_r13t29_x, s_gnomonlaw01_BitsSets_r13t30_x, s_gnomonlaw01_BitsSets_r13t31_x, s_gnomonlaw01_BitsSets_r13t32_tale, s_gnomonlaw01_BitsSets_r13t32_x, am0,am1,am2,am3,am4,am5,am6,am7,bl,i64,reduceIte,reduceCtorEq,Nat.reduceEqDiff,Nat.reduceLT,Nat.reduceLeDiff,Nat.reduceBEq,Nat.reduceAdd,fillA,splice,Nat.reduceMul,al0,al1,al2,al3,al4,al5,al6,al7,al8,al9,al10,al11,al12,al13,al14,al15,al16,al17,al18,al19,al20,al21,al22,al23,al24,al25,al26,al27,al28,al29,al30,al31,al32,al33,al34,amY, hg, eA1, eA2, f3, eA3, eA4, eA5, eA6, eA7, eA8]
        done
      ·
        refine ⟨A8, ?_, ⟨by omega, fun id h1 _ => by rw [kA8.2 id (by omega) (by simp), kA7.2 id (by omega) (by simp), kA6.2 id (by omega) (by simp), kA5.2 id (by omega) (by simp), kA4.2 id (by omega) (by simp), kA3.2 id (by omega) (by simp), kA2.2 id (by omega) (by simp), kA1.2 id (by omega) (by simp)]⟩⟩
        simp only [s_gnomonlaw01_BitsSets_r13p0_tale, s_gnomonlaw01_BitsSets_r13_x, s_gnomonlaw01_BitsSets_r13t1_x, s_gnomonlaw01_BitsSets_r13p2_tale, s_gnomonlaw01_BitsSets_r13t2_x, s_gnomonlaw01_BitsSets_r13t3_x, s_gnomonlaw01_BitsSets_r13t4_x, s_gnomonlaw01_BitsSets_r13t5_x, s_gnomonlaw01_BitsSets_r13t6_x, s_gnomonlaw01_BitsSets_r13t7_x, s_gnomonlaw01_BitsSets_r13p8_tale, s_gnomonlaw01_BitsSets_r13t8_x, s_gnomonlaw01_BitsSets_r13t9_x, s_gnomonlaw01_BitsSets_r13t10_x, s_gnomonlaw01_BitsSets_r13t11_x, s_gnomonlaw01_BitsSets_r13t12_x, s_gnomonlaw01_BitsSets_r13t13_x, s_gnomonlaw01_BitsSets_r13t14_x, s_gnomonlaw01_BitsSets_r13t15_x, s_gnomonlaw01_BitsSets_r13t16_x, s_gnomonlaw01_BitsSets_r13t17_x, s_gnomonlaw01_BitsSets_r13t18_x, s_gnomonlaw01_BitsSets_r13p19_tale, s_gnomonlaw01_BitsSets_r13t19_x, s_gnomonlaw01_BitsSets_r13t20_x, s_gnomonlaw01_BitsSets_r13t21_x, s_gnomonlaw01_BitsSets_r13t22_x, s_gnomonlaw01_BitsSets_r13t23_x, s_gnomonlaw01_BitsSets_r13t24_x, s_gnomonlaw01_BitsSets_r13t25_x, s_gnomonlaw01_BitsSets_r13t26_x, s_gnomonlaw01_BitsSets_r13t27_x, s_gnomonlaw01_BitsSets_r13t28_x, s_gnomonlaw01_BitsSets_r13t29_x, s_gnomonlaw01_BitsSets_r13t30_x, s_gnomonlaw01_BitsSets_r13t31_x, s_gnomonlaw01_BitsSets_r13t32_tale, s_gnomonlaw01_BitsSets_r13t32_x, am0,am1,am2,am3,am4,am5,am6,am7,bl,i64,reduceIte,reduceCtorEq,Nat.reduceEqDiff,Nat.reduceLT,Nat.reduceLeDiff,Nat.reduceBEq,Nat.reduceAdd,fillA,splice,Nat.reduceMul,al0,al1,al2,al3,al4,al5,al6,al7,al8,al9,al10,al11,al12,al13,al14,al15,al16,al17,al18,al19,al20,al21,al22,al23,al24,al25,al26,al27,al28,al29,al30,al31,al32,al33,al34,amY, hg, eA1, eA2, f3, eA3, eA4, eA5, eA6, eA7, eA8]
        done
end
end Go.Proofs.YtccallbknpbggaaDoor
set_option maxRecDepth 100000
namespace Go.Proofs.YtccallbknpbggaaDoor
open Go.AM
theorem cnt_split {p q r : WS} (hp : WdP p) (hq : WdP q) (hr : WdP r) (h : ∀ n, n ∈ el p ↔ n ∈ el q ∨ n ∈ el r) (hd : ∀ n, n ∈ el q → n ∉ el r) : cnt q + cnt r = cnt p := by
  have h1 : (el q ++ el r).Nodup := List.nodup_append.2 ⟨el_nodup hq, el_nodup hr, fun a ha b hb e => hd a ha (e ▸ hb)⟩
  have h2 := nodup_le _ (el p) h1 fun x hx => (h x).2 (List.mem_append.1 hx)
  have h3 := nodup_le _ (el q ++ el r) (el_nodup hp) fun x hx => List.mem_append.2 ((h x).1 hx)
  rw [List.length_append, el_len, el_len, el_len] at h2 h3
  omega
section
variable {CT : Nat → Option CFun}
theorem sets_loop (h : TD CT) {H : Heap} {iu ju : Nat} {pu : WS} (su : SetP H iu ju pu) (cu : cnt pu ≤ 4000) {v : V} (hv : Rd H v ((el pu).map iV)) (hw : Wide1 v) :
    ∀ (d k : Nat), k + d = (el pu).length → itW (evC (callW CT) itW 0 s_gnomonlaw01_BitsSets_l0) [] H.length (frOf 256 [(12, .ref iu 0 0), (17, v), (18, .s (.int .i64 k))]) H = some (.ext 0, frOf 256 [(12, .ref iu 0 0), (17, v), (18, .s (.int .i64 (el pu).length)), (209, .s (.bool false))], H) := by
  have hl := iV_len' hv
  have hel := el_len pu
  intro d
  induction d with
  | zero =>
    intro k hk
    have hk' : k = (el pu).length := by omega
    subst hk'
    rw [itW_step]
    simp only [a_gnomonlaw01_BitsSets,s_gnomonlaw01_BitsSets_l0_b, am0,am1,am2,am3,am4,am5,am6,am7,bl,i64,reduceIte,reduceCtorEq,Nat.reduceEqDiff,Nat.reduceLT,Nat.reduceLeDiff,Nat.reduceBEq,Nat.reduceAdd,fillA,splice,Nat.reduceMul,al0,al1,al2,al3,al4,al5,al6,al7,al8,al9,al10,al11,al12,al13,al14,al15,al16,al17,al18,al19,al20,al21,al22,al23,al24,al25,al26,al27,al28,al29,al30,al31,al32,al33,al34,amY, hl, Int.lt_irrefl, trim_same]
    done
  | succ d ih =>
    intro k hk
    have hkl : k < (el pu).length := by omega
    have hlt : (k : Int) < ((el pu).length : Int) := by omega
    have hwp := wrap_pos (n := k) (by omega)
    have hmem : (el pu)[k] ∈ el pu := List.getElem_mem hkl
    have hnn := el_nn su.wd hmem
    obtain ⟨a, ha1, ha2⟩ := hv.at' hw (i := k) (x := iV (el pu)[k]) (by simp [hkl])
    simp only [iV] at ha2
    have hneg : decide ((el pu)[k] < 0) = false := by simp; omega
    have hhas := fun base => has_P h.toTB base su (el pu)[k] hnn.2
    rw [(mem_el su.wd).1 hmem] at hhas
    have hi := ih (k + 1) (by omega)
    by_cases h0 : k = 0
    · have hg0 : decide ((k : Int) > 0) = false := by simp; omega
      rw [itW_step]
      simp only [a_gnomonlaw01_BitsSets,s_gnomonlaw01_BitsSets_l0_b, am0,am1,am2,am3,am4,am5,am6,am7,bl,i64,reduceIte,reduceCtorEq,Nat.reduceEqDiff,Nat.reduceLT,Nat.reduceLeDiff,Nat.reduceBEq,Nat.reduceAdd,fillA,splice,Nat.reduceMul,al0,al1,al2,al3,al4,al5,al6,al7,al8,al9,al10,al11,al12,al13,al14,al15,al16,al17,al18,al19,al20,al21,al22,al23,al24,al25,al26,al27,al28,al29,al30,al31,al32,al33,al34,amY, hl, hlt, ha1, ha2, hneg, hg0, hhas, hwp, trim_same, hi]
      done
    · have hg0 : decide ((k : Int) > 0) = true := by simp; omega
      have hw2 : IntKind.i64.wrap ((k : Int) - 1) = ((k - 1 : Nat) : Int) := by rw [wrap_i64_id (by omega) (by omega)]; omega
      obtain ⟨b, hb1, hb2⟩ := hv.at' hw (i := k - 1) (x := iV (el pu)[k - 1]) (by rw [List.getElem?_map, List.getElem?_eq_getElem (by omega)]; rfl)
      simp only [iV] at hb2
      have hpw := List.pairwise_iff_getElem.1 (el_lt su.wd) (k - 1) k (by omega) hkl (by omega)
      have hge : decide ((el pu)[k - 1] ≥ (el pu)[k]) = false := by simp; omega
      rw [itW_step]
      simp only [a_gnomonlaw01_BitsSets,s_gnomonlaw01_BitsSets_l0_b, am0,am1,am2,am3,am4,am5,am6,am7,bl,i64,reduceIte,reduceCtorEq,Nat.reduceEqDiff,Nat.reduceLT,Nat.reduceLeDiff,Nat.reduceBEq,Nat.reduceAdd,fillA,splice,Nat.reduceMul,al0,al1,al2,al3,al4,al5,al6,al7,al8,al9,al10,al11,al12,al13,al14,al15,al16,al17,al18,al19,al20,al21,al22,al23,al24,al25,al26,al27,al28,al29,al30,al31,al32,al33,al34,amY, hl, hlt, ha1, ha2, hneg, hg0, hw2, hb1, hb2, hge, hhas, hwp, trim_same, hi]
      done
set_option maxHeartbeats 6400000 in
theorem sets_law (h : TD CT) (hF : CT k_gnomonlaw01_BitsSets = some (.code s_gnomonlaw01_BitsSets)) (hwk : ∀ base H, callW CT (.fn k_gnomonlaw01_wakes [] []) [] base H = some (.s (.bool true), H))
    (va : V) (a : List Int) (hva : ∀ H, Rd H va (a.map iV)) (hwa : Wide1 va) (hna : a.length < 2 ^ 63) (hxa : ∀ x ∈ a, x < 2 ^ 63) (vb : V) (b : List Int) (hvb : ∀ H, Rd H vb (b.map iV)) (hwb : Wide1 vb) (hnb : b.length < 2 ^ 63) (hxb : ∀ x ∈ b, x < 2 ^ 63) (vc : V) (c : List Int) (hvc : ∀ H, Rd H vc (c.map iV)) (hwc : Wide1 vc) (hnc : c.length < 2 ^ 63) (hxc : ∀ x ∈ c, x < 2 ^ 63) (i : Int) (hi : i < 2 ^ 63) :
    ∃ H', callW CT (.fn k_gnomonlaw01_BitsSets [] []) [va, vb, vc, .s (.int .i64 i)] 0 [] = some (.s (.bool true), H') := by
  suffices hall : ∀ A0 : Heap, ∃ H', callW CT (.fn k_gnomonlaw01_BitsSets [] []) [va, vb, vc, .s (.int .i64 i)] 0 A0 = some (.s (.bool true), H') from hall []
  intro A0
  have la := fun H => iV_len' (hva H)
  have lb := fun H => iV_len' (hvb H)
  have lc := fun H => iV_len' (hvc H)
  by_cases ha : a.length > 1000
  · have hg : decide ((a.length : Int) > 1000) = true := by simp; omega
    refine ⟨A0, callW_fn (c := s_gnomonlaw01_BitsSets) hF (by simp [s_gnomonlaw01_BitsSets]) ?_⟩
    simp only [s_gnomonlaw01_BitsSets, a_gnomonlaw01_BitsSets,s_gnomonlaw01_BitsSets_l0_b, am0,am1,am2,am3,am4,am5,am6,am7,bl,i64,reduceIte,reduceCtorEq,Nat.reduceEqDiff,Nat.reduceLT,Nat.reduceLeDiff,Nat.reduceBEq,Nat.reduceAdd,fillA,splice,Nat.reduceMul,al0,al1,al2,al3,al4,al5,al6,al7,al8,al9,al10,al11,al12,al13,al14,al15,al16,al17,al18,al19,al20,al21,al22,al23,al24,al25,al26,al27,al28,al29,al30,al31,al32,al33,al34,amY, la, lb, lc, hg, hwk]
    done
  have ga : decide ((a.length : Int) > 1000) = false := by simp; omega
  by_cases hb : b.length > 1000
  · have hg : decide ((b.length : Int) > 1000) = true := by simp; omega
    refine ⟨A0, callW_fn (c := s_gnomonlaw01_BitsSets) hF (by simp [s_gnomonlaw01_BitsSets]) ?_⟩
    simp only [s_gnomonlaw01_BitsSets, a_gnomonlaw01_BitsSets,s_gnomonlaw01_BitsSets_l0_b, am0,am1,am2,am3,am4,am5,am6,am7,bl,i64,reduceIte,reduceCtorEq,Nat.reduceEqDiff,Nat.reduceLT,Nat.reduceLeDiff,Nat.reduceBEq,Nat.reduceAdd,fillA,splice,Nat.reduceMul,al0,al1,al2,al3,al4,al5,al6,al7,al8,al9,al10,al11,al12,al13,al14,al15,al16,al17,al18,al19,al20,al21,al22,al23,al24,al25,al26,al27,al28,al29,al30,al31,al32,al33,al34,amY, la, lb, lc, ga, hg, hwk]
    done
  have gb : decide ((b.length : Int) > 1000) = false := by simp; omega
  by_cases hc : c.length > 1000
  · have hg : decide ((c.length : Int) > 1000) = true := by simp; omega
    refine ⟨A0, callW_fn (c := s_gnomonlaw01_BitsSets) hF (by simp [s_gnomonlaw01_BitsSets]) ?_⟩
    simp only [s_gnomonlaw01_BitsSets, a_gnomonlaw01_BitsSets,s_gnomonlaw01_BitsSets_l0_b, am0,am1,am2,am3,am4,am5,am6,am7,bl,i64,reduceIte,reduceCtorEq,Nat.reduceEqDiff,Nat.reduceLT,Nat.reduceLeDiff,Nat.reduceBEq,Nat.reduceAdd,fillA,splice,Nat.reduceMul,al0,al1,al2,al3,al4,al5,al6,al7,al8,al9,al10,al11,al12,al13,al14,al15,al16,al17,al18,al19,al20,al21,al22,al23,al24,al25,al26,al27,al28,al29,al30,al31,al32,al33,al34,amY, la, lb, lc, ga, gb, hg, hwk]
    done
  have gc : decide ((c.length : Int) > 1000) = false := by simp; omega
  obtain ⟨A1, eA1, sx, kx, lA1⟩ := of_P h.toTB 0 (H := A0) (v := va) (l := a) (hva _) hwa (by first | omega | decide | simp) hxa (Nat.zero_le _)
  have kA1 := kx.d []
  clear kx
  have cx : cnt (ofP a noP) ≤ 1000 := Nat.le_trans (cnt_of hxa) (by first | omega | decide | simp)
  have dx := SetW.lt sx
  obtain ⟨A2, eA2, sy, kx, lA2⟩ := of_P h.toTB 0 (H := A1) (v := vb) (l := b) (hvb _) hwb (by first | omega | decide | simp) hxb (Nat.zero_le _)
  have kA2 := kx.d []
  clear kx
  have sx := kA2.s sx
  have cy : cnt (ofP b noP) ≤ 1000 := Nat.le_trans (cnt_of hxb) (by first | omega | decide | simp)
  have dy := SetW.lt sy
  obtain ⟨A3, eA3, sz, kx, lA3⟩ := of_P h.toTB 0 (H := A2) (v := vc) (l := c) (hvc _) hwc (by first | omega | decide | simp) hxc (Nat.zero_le _)
  have kA3 := kx.d []
  clear kx
  have sx := kA3.s sx
  have sy := kA3.s sy
  have cz : cnt (ofP c noP) ≤ 1000 := Nat.le_trans (cnt_of hxc) (by first | omega | decide | simp)
  have dz := SetW.lt sz
  obtain ⟨A4, eA4, su, kA4, lA4⟩ := copy_ex h.toTC 0 sx
  have sx := kA4.s sx
  have sy := kA4.s sy
  have sz := kA4.s sz
  have cu := cx
  have du := SetW.lt su
  have mA5 := cnt_uniA su.wd sy.wd
  obtain ⟨A5, eA5, nu, kA5⟩ := union_P h.toTB 0 su (Nat.zero_le _) (Nat.zero_le _) sy (.inr ⟨by omega, by omega, by omega, by omega⟩) (by omega) h.union
  have sx := kA5.s sx ⟨by omega, by omega, by omega, by omega⟩
  have sy := kA5.s sy ⟨by omega, by omega, by omega, by omega⟩
  have sz := kA5.s sz ⟨by omega, by omega, by omega, by omega⟩
  have su := nu
  clear nu
  have cu := mA5
  have lA5 := kA5.1
  have mA6 := cnt_minus sx.wd sy.wd
  obtain ⟨im, jm, A6, eA6, sm, kA6, gm, qm⟩ := minus_P h.toTC 0 sx (by omega) (AtV.set h.toTB sy) (Nat.zero_le _)
  have sx := kA6.s sx
  have sy := kA6.s sy
  have sz := kA6.s sz
  have su := kA6.s su
  have cm := mA6
  have dm := SetW.lt sm
  have lA6 := kA6.1
  have mA7 := cnt_both sx.wd sy.wd
  obtain ⟨iw, jw, A7, eA7, sw, kA7, gw, qw⟩ := both_P h.toTC 0 sx (by omega) (AtV.set h.toTB sy) (Nat.zero_le _)
  have sx := kA7.s sx
  have sy := kA7.s sy
  have sz := kA7.s sz
  have su := kA7.s su
  have sm := kA7.s sm
  have cw := mA7
  have dw := SetW.lt sw
  have lA7 := kA7.1
  have f1 := fun base => has_P h.toTB base su i hi
  have f2 := fun base => has_P h.toTB base sx i hi
  have f3 := fun base => has_P h.toTB base sy i hi
  have f4 := fun base => has_P h.toTB base sm i hi
  have f5 := fun base => has_P h.toTB base sw i hi
  have hhu : hasF (uniA (ofP a noP) (ofP b noP)).2 i = (hasF (ofP a noP).2 i || hasF (ofP b noP).2 i) := by
    rw [Bool.eq_iff_iff, Bool.or_eq_true, ← mem_el su.wd, ← mem_el sx.wd, ← mem_el sy.wd, mem_uniA sx.wd sy.wd]
  have hhm : hasF (pickP (ofP a noP) (ofP b noP).2 andNot).2 i = (hasF (ofP a noP).2 i && !hasF (ofP b noP).2 i) := by
    rw [Bool.eq_iff_iff, Bool.and_eq_true, Bool.not_eq_true', ← mem_el sm.wd, ← mem_el sx.wd, mem_minus sx.wd sy.wd, ← Bool.not_eq_true, ← mem_el sy.wd]
  have hho : hasF (pickP (ofP a noP) (ofP b noP).2 (· &&& ·)).2 i = (hasF (ofP a noP).2 i && hasF (ofP b noP).2 i) := by
    rw [Bool.eq_iff_iff, Bool.and_eq_true, ← mem_el sw.wd, ← mem_el sx.wd, ← mem_el sy.wd, mem_both sx.wd sy.wd]
  have mu := fun n => mem_uniA sx.wd sy.wd (x := n)
  have mm := fun n => mem_minus sx.wd sy.wd (x := n)
  have mw := fun n => mem_both sx.wd sy.wd (x := n)
  have q1 := cnt_split sx.wd sm.wd sw.wd (fun n => by rw [mm, mw]; by_cases hn : n ∈ el (ofP b noP) <;> simp [hn]) (fun n hn hn2 => ((mm n).1 hn).2 ((mw n).1 hn2).2)
  have q2 := cnt_split (p := uniA (ofP a noP) (ofP b noP)) su.wd sx.wd (minus_wd (p := ofP b noP) (r := ofP a noP) sy.wd) (fun n => by rw [mu, mem_minus sy.wd sx.wd]; by_cases hn : n ∈ el (ofP a noP) <;> simp [hn]) (fun n hn hn2 => ((mem_minus sy.wd sx.wd).1 hn2).2 hn)
  have q3 := cnt_split sy.wd (minus_wd (p := ofP b noP) (r := ofP a noP) sy.wd) sw.wd (fun n => by rw [mw, mem_minus sy.wd sx.wd]; by_cases hn : n ∈ el (ofP a noP) <;> simp [hn]) (fun n hn hn2 => ((mem_minus sy.wd sx.wd).1 hn).2 ((mw n).1 hn2).1)
  obtain ⟨B9, e9, k9⟩ := sets_r9 h sx sy sz su sm sw (by omega) (by omega) (by omega) (by omega) (by omega) (by omega) mu mm mw q1 (by omega)
  have k9l := k9.1
  have sx := k9.s sx
  have sy := k9.s sy
  have sz := k9.s sz
  have su := k9.s su
  have sm := k9.s sm
  have sw := k9.s sw
  obtain ⟨A18, eA18, sb, kA18, lA18⟩ := copy_ex h.toTC 0 sm
  have sx := kA18.s sx
  have sy := kA18.s sy
  have sz := kA18.s sz
  have su := kA18.s su
  have sm := kA18.s sm
  have sw := kA18.s sw
  have cb := cm
  have db := SetW.lt sb
  have mA19 := cnt_uniA sb.wd sw.wd
  obtain ⟨A19, eA19, nb, kA19⟩ := union_P h.toTB 0 sb (Nat.zero_le _) (Nat.zero_le _) sw (.inr ⟨by omega, by omega, by omega, by omega⟩) (by omega) h.union
  have sx := kA19.s sx ⟨by omega, by omega, by omega, by omega⟩
  have sy := kA19.s sy ⟨by omega, by omega, by omega, by omega⟩
  have sz := kA19.s sz ⟨by omega, by omega, by omega, by omega⟩
  have su := kA19.s su ⟨by omega, by omega, by omega, by omega⟩
  have sm := kA19.s sm ⟨by omega, by omega, by omega, by omega⟩
  have sw := kA19.s sw ⟨by omega, by omega, by omega, by omega⟩
  have sb := nb
  clear nb
  have cb := mA19
  have lA19 := kA19.1
  have mb : ∀ n, n ∈ el (uniA (pickP (ofP a noP) ((ofP b noP)).2 andNot) (pickP (ofP a noP) ((ofP b noP)).2 (· &&& ·))) ↔ n ∈ el (ofP a noP) := fun n => by rw [mem_uniA sm.wd sw.wd, mm, mw]; by_cases hn : n ∈ el (ofP b noP) <;> simp [hn]
  obtain ⟨B13, e13, k13⟩ := sets_r13 h sx sy sz su sm sb (by omega) (by omega) (by omega) (by omega) (by omega) (by omega) mm mb
  have k13l := k13.1
  have sx := k13.s sx
  have sy := k13.s sy
  have sz := k13.s sz
  have su := k13.s su
  have sm := k13.s sm
  have sw := k13.s sw
  have sb := k13.s sb
  obtain ⟨vv, A20, eA20, ov, kA20⟩ := list_P h 0 su (by omega) (Nat.zero_le _)
  have sx := kA20.s sx
  have sy := kA20.s sy
  have sz := kA20.s sz
  have su := kA20.s su
  have sm := kA20.s sm
  have sw := kA20.s sw
  have sb := kA20.s sb
  have bv := own_lt ov
  have lA20 := kA20.1
  have hloop := sets_loop h su (by omega) ov.rd ov.wide (el (uniA (ofP a noP) (ofP b noP))).length 0 (by omega)
  rw [show (((0 : Nat) : Nat) : Int) = 0 from rfl] at hloop
  have hll := iV_len' ov.rd
  have hle : (((el (uniA (ofP a noP) (ofP b noP))).length : Int) == (cnt (uniA (ofP a noP) (ofP b noP)) : Int)) = true := by rw [el_len]; simp
  have hxu : ∀ x ∈ el (uniA (ofP a noP) (ofP b noP)), x < 2 ^ 63 := fun x hx => (el_nn su.wd hx).2
  have hlu := el_len (uniA (ofP a noP) (ofP b noP))
  have f11 := fun base => len_fun h.len base su
  obtain ⟨A21, eA21, sf, kx, lA21⟩ := of_P h.toTB 0 (H := A20) (v := vv) (l := (el (uniA (ofP a noP) (ofP b noP)))) ov.rd ov.wide (by first | omega | decide | simp) hxu (Nat.zero_le _)
  have kA21 := kx.d []
  clear kx
  have sx := kA21.s sx
  have sy := kA21.s sy
  have sz := kA21.s sz
  have su := kA21.s su
  have sm := kA21.s sm
  have sw := kA21.s sw
  have sb := kA21.s sb
  have ov := kA21.o ov
  have cf : cnt (ofP (el (uniA (ofP a noP) (ofP b noP))) noP) ≤ 4000 := Nat.le_trans (cnt_of hxu) (by first | omega | decide | simp)
  have df := SetW.lt sf
  obtain ⟨r12, A22, eA22, zr12, kA22⟩ := same_P h.toTC 0 sf (by omega) (AtV.set h.toTB su) (LenV.set h.toTB su) (Nat.zero_le _)
  have zr12 := zr12.trans (same_iff sf.wd su.wd)
  have yr12 : r12 = true := zr12.2 (el_ext sf.wd su.wd fun n => by rw [mem_of hxu]; exact ⟨fun h => h.1, fun hn => ⟨hn, (el_nn su.wd hn).1⟩⟩)
  subst yr12
  have sx := kA22.s sx
  have sy := kA22.s sy
  have sz := kA22.s sz
  have su := kA22.s su
  have sm := kA22.s sm
  have sw := kA22.s sw
  have sb := kA22.s sb
  have sf := kA22.s sf
  have ov := kA22.o ov
  have lA22 := kA22.1
  generalize hasF (ofP a noP).2 i = hx at *
  generalize hasF (ofP b noP).2 i = hy at *
  cases hx <;> cases hy
  all_goals refine ⟨A22, callW_fn (c := s_gnomonlaw01_BitsSets) hF (by simp [s_gnomonlaw01_BitsSets]) ?_⟩
  all_goals simp only [Bool.or_true, Bool.true_or, Bool.or_false, Bool.and_true, Bool.and_false, Bool.not_true, Bool.not_false] at hhu hhm hho
  all_goals rw [hhu] at f1
  all_goals rw [hhm] at f4
  all_goals rw [hho] at f5
  all_goals simp only [s_gnomonlaw01_BitsSets, s_gnomonlaw01_BitsSets_r0_tale, s_gnomonlaw01_BitsSets_r0_kT, s_gnomonlaw01_BitsSets_r0_kA0, s_gnomonlaw01_BitsSets_r0_kA1, s_gnomonlaw01_BitsSets_r0_kA2, s_gnomonlaw01_BitsSets_r0_kA3, s_gnomonlaw01_BitsSets_r1_tale, s_gnomonlaw01_BitsSets_r2_x, s_gnomonlaw01_BitsSets_r2t1_tale, s_gnomonlaw01_BitsSets_r2t1_x, s_gnomonlaw01_BitsSets_r3p0_tale, s_gnomonlaw01_BitsSets_r3_x, s_gnomonlaw01_BitsSets_r3t1_x, s_gnomonlaw01_BitsSets_r3p2_tale, s_gnomonlaw01_BitsSets_r3t2_x, s_gnomonlaw01_BitsSets_r3t3_x, s_gnomonlaw01_BitsSets_r3p4_tale, s_gnomonlaw01_BitsSets_r3t4_x, s_gnomonlaw01_BitsSets_r3t5_x, s_gnomonlaw01_BitsSets_r3t6_tale, s_gnomonlaw01_BitsSets_r3t6_x, s_gnomonlaw01_BitsSets_r4p0_tale, s_gnomonlaw01_BitsSets_r4_x, s_gnomonlaw01_BitsSets_r4t1_x, s_gnomonlaw01_BitsSets_r4t2_tale, s_gnomonlaw01_BitsSets_r4t2_x, s_gnomonlaw01_BitsSets_r5p0_tale, s_gnomonlaw01_BitsSets_r5_x, s_gnomonlaw01_BitsSets_r5t1_x, s_gnomonlaw01_BitsSets_r5t2_tale, s_gnomonlaw01_BitsSets_r5t2_x, s_gnomonlaw01_BitsSets_r6p0_tale, s_gnomonlaw01_BitsSets_r6_x, s_gnomonlaw01_BitsSets_r6t1_x, s_gnomonlaw01_BitsSets_r6p2_tale, s_gnomonlaw01_BitsSets_r6t2_x, s_gnomonlaw01_BitsSets_r6t3_x, s_gnomonlaw01_BitsSets_r6t4_tale, s_gnomonlaw01_BitsSets_r6t4_x, s_gnomonlaw01_BitsSets_r7p0_tale, s_gnomonlaw01_BitsSets_r7_x, s_gnomonlaw01_BitsSets_r7t1_x, s_gnomonlaw01_BitsSets_r7p2_tale, s_gnomonlaw01_BitsSets_r7t2_x, s_gnomonlaw01_BitsSets_r7t3_x, s_gnomonlaw01_BitsSets_r7p4_tale, s_gnomonlaw01_BitsSets_r7t4_x, s_gnomonlaw01_BitsSets_r7t5_x, s_gnomonlaw01_BitsSets_r7t6_x, s_gnomonlaw01_BitsSets_r7t7_x, s_gnomonlaw01_BitsSets_r7p8_tale, s_gnomonlaw01_BitsSets_r7t8_x, s_gnomonlaw01_BitsSets_r7t9_x, s_gnomonlaw01_BitsSets_r7t10_x, s_gnomonlaw01_BitsSets_r7t11_x, s_gnomonlaw01_BitsSets_r7t12_x, s_gnomonlaw01_BitsSets_r7t13_x, s_gnomonlaw01_BitsSets_r7t14_x, s_gnomonlaw01_BitsSets_r7t15_x, s_gnomonlaw01_BitsSets_r7t16_x, s_gnomonlaw01_BitsSets_r7t17_x, s_gnomonlaw01_BitsSets_r7t18_x, s_gnomonlaw01_BitsSets_r7p19_tale, s_gnomonlaw01_BitsSets_r7t19_x, s_gnomonlaw01_BitsSets_r7t20_x, s_gnomonlaw01_BitsSets_r7t21_x, s_gnomonlaw01_BitsSets_r7t22_x, s_gnomonlaw01_BitsSets_r7t23_x, s_gnomonlaw01_BitsSets_r7t24_x, s_gnomonlaw01_BitsSets_r7t25_x, s_gnomonlaw01_BitsSets_r7t26_x, s_gnomonlaw01_BitsSets_r7t27_x, s_gnomonlaw01_BitsSets_r7t28_x, s_gnomonlaw01_BitsSets_r7t29_x, s_gnomonlaw01_BitsSets_r7t30_tale, s_gnomonlaw01_BitsSets_r7t30_x, s_gnomonlaw01_BitsSets_r8_tale, s_gnomonlaw01_BitsSets_r10_tale, s_gnomonlaw01_BitsSets_r11p0_tale, s_gnomonlaw01_BitsSets_r11_x, s_gnomonlaw01_BitsSets_r11t1_x, s_gnomonlaw01_BitsSets_r11t2_tale, s_gnomonlaw01_BitsSets_r11t2_x, s_gnomonlaw01_BitsSets_r12p0_tale, s_gnomonlaw01_BitsSets_r12_x, s_gnomonlaw01_BitsSets_r12t1_x, s_gnomonlaw01_BitsSets_r14_tale, s_gnomonlaw01_BitsSets_r15p0_tale, s_gnomonlaw01_BitsSets_r15_x, s_gnomonlaw01_BitsSets_r15t1_x, s_gnomonlaw01_BitsSets_r15t2_tale, s_gnomonlaw01_BitsSets_r15t2_x, s_gnomonlaw01_BitsSets_r16_tale, s_gnomonlaw01_BitsSets_r17_tale, s_gnomonlaw01_BitsSets_r18p0_tale, s_gnomonlaw01_BitsSets_r18_x, s_gnomonlaw01_BitsSets_r18t1_x, s_gnomonlaw01_BitsSets_r18t2_x, s_gnomonlaw01_BitsSets_r18t3_x, s_gnomonlaw01_BitsSets_r18t4_x, s_gnomonlaw01_BitsSets_r18t5_x, s_gnomonlaw01_BitsSets_r18t6_x, s_gnomonlaw01_BitsSets_r18t7_tale, s_gnomonlaw01_BitsSets_r18t7_x, s_gnomonlaw01_BitsSets_r19_tale, s_gnomonlaw01_BitsSets_r20_tale, s_gnomonlaw01_BitsSets_l0_b, s_gnomonlaw01_BitsSets_l0_ev, s_gnomonlaw01_BitsSets_r21p0_tale, s_gnomonlaw01_BitsSets_r21_x, s_gnomonlaw01_BitsSets_r21t1_x, s_gnomonlaw01_BitsSets_r21p2_tale, s_gnomonlaw01_BitsSets_r21t2_x, s_gnomonlaw01_BitsSets_r21t3_x, s_gnomonlaw01_BitsSets_r21t4_x, s_gnomonlaw01_BitsSets_r21t5_x, s_gnomonlaw01_BitsSets_r21t6_x, s_gnomonlaw01_BitsSets_r21p7_tale, s_gnomonlaw01_BitsSets_r21t7_x, s_gnomonlaw01_BitsSets_r21t8_x, s_gnomonlaw01_BitsSets_r21t9_tale, s_gnomonlaw01_BitsSets_r21t9_x, am0,am1,am2,am3,am4,am5,am6,am7,bl,i64,reduceIte,reduceCtorEq,Nat.reduceEqDiff,Nat.reduceLT,Nat.reduceLeDiff,Nat.reduceBEq,Nat.reduceAdd,fillA,splice,Nat.reduceMul,al0,al1,al2,al3,al4,al5,al6,al7,al8,al9,al10,al11,al12,al13,al14,al15,al16,al17,al18,al19,al20,al21,al22,al23,al24,al25,al26,al27,al28,al29,al30,al31,al32,al33,al34,amY, la, lb, lc, ga, gb, gc, hwk, e9, e13, hloop, hll, hle, eA1, eA2, eA3, eA4, eA5, eA6, eA7, f1, f2, f3, f4, f5, eA18, eA19, eA20, f11, eA21, eA22]
end
end Go.Proofs.YtccallbknpbggaaDoor
