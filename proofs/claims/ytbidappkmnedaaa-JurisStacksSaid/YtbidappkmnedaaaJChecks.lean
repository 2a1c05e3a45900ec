/- law 20: JurisChecks, walked -/
import Derived.Test.YtbidappkmnedaaaJBig2
import Derived.Test.YtbidappkmnedaaaJRefC
import Derived.Test.YtbidappkmnedaaaJAwake
import Derived.Deep.DeepCutAuto
namespace Go.Proofs.Ytbidappkmnedaaa
open Go.RowKit
theorem Alike.symm {c d : Jur} (h : Alike c d) : Alike d c := ⟨h.1.symm, h.2.1.symm, h.2.2.1.symm, h.2.2.2.symm⟩
theorem alike_all {L S : List Jur} {n : Nat} (h1 : L.length = n) (h2 : S.length = n) (h : ∀ i, i < n → Alike (L.getD i j0) (S.getD i j0)) : ∀ i, Alike (L.getD i j0) (S.getD i j0) := fun i => by
  by_cases hi : i < n
  · exact h i hi
  · rw [List.getD_eq_getElem?_getD, List.getD_eq_getElem?_getD, List.getElem?_eq_none (by omega), List.getElem?_eq_none (by omega)]
    exact ⟨rfl, rfl, rfl, rfl⟩
theorem atJ_alike1 {L S : List Jur} (hl : L.length = S.length) (h : ∀ i, Alike (L.getD i j0) (S.getD i j0)) {x : Int} {k : Nat} (ha : atJ L x = some k) : atJ S x = some k := by
  obtain ⟨h1, h2, h3⟩ := atJ_lt ha
  exact atJ_some rfl (by omega) (by rw [← (h k).1]; exact h2) (fun i hi => by rw [← (h i).1]; exact h3 i hi)
theorem atJ_alike {L S : List Jur} (hl : L.length = S.length) (h : ∀ i, Alike (L.getD i j0) (S.getD i j0)) (x : Int) : atJ S x = atJ L x := by
  cases ha : atJ L x with
  | some k => exact atJ_alike1 hl h ha
  | none =>
    cases hb : atJ S x with
    | none => rfl
    | some k =>
      have := atJ_alike1 hl.symm (fun i => (h i).symm) hb
      rw [ha] at this
      cases this
theorem check_alike {L S : List Jur} (hl : L.length = S.length) (h : ∀ i, Alike (L.getD i j0) (S.getD i j0)) : checkP S = checkP L := by
  have h1 : rankP S = rankP L := funext fun i => by
    unfold rankP
    rw [(h i).1, (h i).2.1, (h i).2.2.2, (h (i - 1)).1]
  have h2 : par S = par L := funext fun i => by
    unfold par parentP
    rw [(h i).2.1, (h i).2.2.1, atJ_alike hl h]
    cases atJ L (S.getD i j0).pa with
    | none => rfl
    | some k => dsimp only; rw [(h k).2.1]
  unfold checkP
  rw [h1, h2, hl]
theorem find_alike {L S : List Jur} {RR : List (List (List (Int × Int)))} (hl : L.length = S.length) (h : ∀ i, Alike (L.getD i j0) (S.getD i j0)) (x : Int) :
    (findP S x).2 = (findP L x).2 ∧ Alike (findP S x).1 (findP L x).1 ∧ ∃ R, ∀ W : World, JursD W S RR → JursD W L RR → IsRings W (findP S x).1.ra (findP S x).1.rn (findP S x).1.rc R ∧ IsRings W (findP L x).1.ra (findP L x).1.rn (findP L x).1.rc R := by
  unfold findP
  rw [atJ_alike hl h]
  cases ha : atJ L x with
  | none => exact ⟨rfl, ⟨rfl, rfl, rfl, rfl⟩, [], fun W _ _ => ⟨IsRings.nil W, IsRings.nil W⟩⟩
  | some k =>
    have hk := (atJ_lt ha).1
    exact ⟨rfl, (h k).symm, RR.getD k [], fun W h1 h2 => ⟨h1 k (by omega), h2 k hk⟩⟩
set_option maxRecDepth 100000 in
set_option maxHeartbeats 4000000 in
theorem JurisChecks_any (ao : Option Addr) (n cap : Nat) (L : List Jur) (RR : List (List (List (Int × Int)))) (x : Int) (w : World) (h : IsJurs w ao n cap L) (hd : JursD w L RR) (hkp : ∀ i, i < n → Kept (RR.getD i [])) :
    Calls Try.prog 3 #[.slice ao n cap, .int .i64 x] w fun e w' => e = .returned (.bool true) ∧ Below w.heap.size w w' := by
  have HJ := Lib.hid h
  have HD := Lib.hid hd
  have HK := Lib.hid hkp
  have HL : Hid (L.length = n) := h.1
  clear h hd hkp
  go_enter Try.func3, Try.ntmps3
  go_wp2_with fail
  refine (BigJuris2_any ao n cap L RR 80 w HJ.out HD.out HK.out).mono ?_
  rintro e w1 ⟨⟨b, rfl, hsm⟩, rfl⟩
  cases b with
  | true =>
    clear hsm
    go_wp2_with fail
    refine (awake_any w).mono ?_
    rintro e w2 ⟨rfl, hb2⟩
    go_wp2_with fail
    go_ret
    exact ⟨rfl, hb2⟩
  | false =>
    obtain ⟨hn80, hsmall⟩ := hsm rfl
    have HCP := Lib.hid (CopyJuris_any ao n cap L RR w HJ.out HD.out (by omega) hsmall)
    clear hsm hsmall
    go_wp2_with fail
    refine HCP.out.mono ?_
    rintro e w2 ⟨a2, c2, S, rfl, hj2, hd2, hal2, _, hb2⟩
    have hall := alike_all HL.out hj2.1 hal2
    have hls : L.length = S.length := by rw [hj2.1]; exact HL.out
    obtain ⟨fe, fc, R, fr⟩ := find_alike (RR := RR) hls hall x
    have hck := Check_any a2 n c2 S w2 hj2
    rw [check_alike hls hall] at hck
    obtain ⟨ce, hce⟩ : ∃ c, c = (checkP L).1 := ⟨_, rfl⟩
    obtain ⟨ci, hci⟩ : ∃ c, c = (checkP L).2 := ⟨_, rfl⟩
    have HCR : Hid (∀ W, Grew w2 W → Calls Try.prog 12 #[.slice ao n cap] W fun e w' => e = .returned (.tuple #[.int .i64 ce, .int .i64 ci]) ∧ Grew W w') := Lib.hid fun W hW => by
      rw [hce, hci]; exact CheckR_any ao n cap L W ((HJ.out.later hb2 (Nat.le_refl _)).grew hW)
    rw [← hce, ← hci] at hck
    obtain ⟨fc1, hfc⟩ : ∃ c, c = (findP S x).1 := ⟨_, rfl⟩
    obtain ⟨fd1, hfd⟩ : ∃ c, c = (findP L x).1 := ⟨_, rfl⟩
    obtain ⟨fb, hfb⟩ : ∃ c, c = (findP L x).2 := ⟨_, rfl⟩
    have HF1 : Hid (∀ W, Grew w2 W → Calls Try.prog 13 #[.slice a2 n c2, .int .i64 x] W fun e w' => e = .returned (.tuple #[fc1.val, .bool fb]) ∧ Grew W w') := Lib.hid fun W hW => by
      rw [hfc, hfb, ← fe]; exact Find_any a2 n c2 S x W (hj2.grew hW)
    have HF2 : Hid (∀ W, Grew w2 W → Calls Try.prog 14 #[.slice ao n cap, .int .i64 x] W fun e w' => e = .returned (.tuple #[fd1.val, .bool fb]) ∧ Grew W w') := Lib.hid fun W hW => by
      rw [hfd, hfb]; exact FindR_any ao n cap L x W ((HJ.out.later hb2 (Nat.le_refl _)).grew hW)
    have HS1 : Hid (∀ W, Grew w2 W → Calls Try.prog 15 #[fc1.val, fd1.val] W fun e w' => e = .returned (.bool true) ∧ Grew W w') := Lib.hid fun W hW => by
      have := fr W (hd2.later hW.1 (Nat.le_refl _)) ((HD.out.later hb2 (Nat.le_refl _)).later hW.1 (Nat.le_refl _))
      rw [hfc, hfd]
      exact SameOne_any _ _ R W fc this.1 this.2
    have HS2 : Hid (∀ W, Grew w2 W → Calls Try.prog 16 #[.slice a2 n c2, .slice ao n cap] W fun e w' => e = .returned (.bool true) ∧ Grew W w') := Lib.hid fun W hW =>
      SameJuris_any a2 n c2 ao cap S L RR W (hj2.grew hW) ((HJ.out.later hb2 (Nat.le_refl _)).grew hW) (hd2.later hW.1 (Nat.le_refl _)) ((HD.out.later hb2 (Nat.le_refl _)).later hW.1 (Nat.le_refl _)) (fun i hi => (hal2 i hi).symm)
    have HCK := Lib.hid hck
    have HB2 := Lib.hid hb2
    clear hj2 hd2 hal2 hall hls fe fc fr hck hb2 hce hci hfc hfd hfb HCP
    obtain ⟨p1, p2, p3, p4, p5, p6, p7⟩ := fc1
    obtain ⟨q1, q2, q3, q4, q5, q6, q7⟩ := fd1
    unfold Jur.val Jur.row at HF1 HF2 HS1
    dsimp only at HF1 HF2 HS1
    go_wp2_with fail
    refine HCK.out.mono ?_
    rintro e w3 ⟨rfl, hg3⟩
    have HG3 := Lib.hid hg3
    clear hg3
    go_wp2_with fail
    refine (HCR.out _ HG3.out).mono ?_
    rintro e w4 ⟨rfl, hg4⟩
    have HG4 := Lib.hid (HG3.out.trans hg4)
    clear hg4
    go_wp2_with fail
    refine (HF1.out _ HG4.out).mono ?_
    rintro e w5 ⟨rfl, hg5⟩
    have HG5 := Lib.hid ((HG4.out.trans hg5).alloc (Obj.cells #[.int .i64 p1, .int .i64 p2, .int .i64 p3, .int .i64 p4, .slice p5 p6 p7] 33))
    have HX5 := Lib.hid (alloc_new w5 (Obj.cells #[.int .i64 p1, .int .i64 p2, .int .i64 p3, .int .i64 p4, .slice p5 p6 p7] 33))
    clear hg5
    go_upto_region 7 with (fail)
    generalize w5.alloc (Obj.cells #[.int .i64 p1, .int .i64 p2, .int .i64 p3, .int .i64 p4, .slice p5 p6 p7] 33) = w6 at HG5 HX5 ⊢
    generalize w5.heap.size = xb at HX5 ⊢
    go_wp2_with fail
    refine (HF2.out _ HG5.out).mono ?_
    rintro e w7 ⟨rfl, hg7⟩
    have hg8 := hg7.alloc (Obj.cells #[.int .i64 q1, .int .i64 q2, .int .i64 q3, .int .i64 q4, .slice q5 q6 q7] 33)
    have HX8 := Lib.hid ((hg8.1.block xb (Array.getElem?_eq_some_iff.1 HX5.out).1).trans HX5.out)
    have HY8 := Lib.hid (alloc_new w7 (Obj.cells #[.int .i64 q1, .int .i64 q2, .int .i64 q3, .int .i64 q4, .slice q5 q6 q7] 33))
    have HG8 := Lib.hid (HG5.out.trans hg8)
    clear hg7 hg8
    go_upto_region 8 with (fail)
    generalize w7.alloc (Obj.cells #[.int .i64 q1, .int .i64 q2, .int .i64 q3, .int .i64 q4, .slice q5 q6 q7] 33) = w8 at HG8 HX8 HY8 ⊢
    generalize w7.heap.size = yb at HY8 ⊢
    obtain ⟨r0, r1, r2, r3, r4, _, _, _, _, _⟩ := jur_box ⟨p1, p2, p3, p4, p5, p6, p7⟩ HX8.out
    obtain ⟨s0, s1, s2, s3, s4, _, _, _, _, _⟩ := jur_box ⟨q1, q2, q3, q4, q5, q6, q7⟩ HY8.out
    dsimp only at r0 r1 r2 r3 r4 s0 s1 s2 s3 s4
    go_wp2_with fail
    refine (HS1.out _ HG8.out).mono ?_
    rintro e w9 ⟨rfl, hg9⟩
    have HG9 := Lib.hid (HG8.out.trans hg9)
    clear hg9
    go_wp2_with fail
    refine (HS2.out _ HG9.out).mono ?_
    rintro e w10 ⟨rfl, hg10⟩
    have HB10 := Lib.hid (HB2.out.trans ((HG9.out.trans hg10).1.mono HB2.out.size))
    clear hg10
    go_wp2_with fail
    refine (awake_any _).mono ?_
    rintro e w11 ⟨rfl, hb11⟩
    have HB11 := Lib.hid (HB10.out.trans (hb11.mono HB10.out.size))
    clear hb11
    go_wp2_with fail
    go_ret
    exact ⟨rfl, HB11.out⟩
theorem JurisChecks_z (ao : Option Addr) (n cap : Nat) (L : List Jur) (x : Int) (w : World) (h : IsJursZ w ao n cap L) :
    Calls Try.prog 3 #[.slice ao n cap, .int .i64 x] w fun e w' => e = .returned (.bool true) ∧ Below w.heap.size w w' := by
  obtain ⟨h1, RR, h2, h3⟩ := h
  exact JurisChecks_any ao n cap L RR x w h1 h2 (fun i hi => h3 i (by rw [h1.1]; exact hi))
end Go.Proofs.Ytbidappkmnedaaa
