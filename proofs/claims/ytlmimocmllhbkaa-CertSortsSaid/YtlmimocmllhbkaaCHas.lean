/- cert: IndexFunc, ContainsFunc, Holds -/
import Derived.Test.YtlmimocmllhbkaaCCheck
namespace Go.Proofs.Ytlmimocmllhbkaa
open Go.RowKit
def anyP (L : List Crt) (q : Qst) : Bool := L.any fun c => holdsP q c
theorem anyP_true {L : List Crt} {q : Qst} {k n : Nat} (hl : L.length = n) (hk : k < n) (h : holdsP q (L.getD k c0) = true) : anyP L q = true := by
  unfold anyP
  rw [List.any_eq_true]
  refine ⟨L.getD k c0, ?_, h⟩
  rw [List.getD_eq_getElem?_getD, List.getElem?_eq_getElem (by omega)]
  exact List.getElem_mem _
theorem anyP_false {L : List Crt} {q : Qst} {n : Nat} (hl : L.length = n) (h : ∀ i, i < n → holdsP q (L.getD i c0) = false) : anyP L q = false := by
  unfold anyP
  rw [Bool.eq_false_iff]
  intro ha
  obtain ⟨c, hc, hh⟩ := List.any_eq_true.1 ha
  obtain ⟨i, hi, rfl⟩ := List.mem_iff_getElem.1 hc
  have := h i (by omega)
  rw [List.getD_eq_getElem?_getD, List.getElem?_eq_getElem hi, Option.getD_some, hh] at this
  cases this
set_option maxRecDepth 100000 in
theorem IndexFunc_any (ao : Option Addr) (n cap : Nat) (L : List Crt) (q : Qst) (w : World) (h : IsCerts w ao n cap L) :
    Calls Try.prog 28 #[.slice ao n cap, .func (.func 21) #[q.val] #[]] w fun e w' => ∃ r : Int, e = .returned (.int .i64 r) ∧ (decide (0 ≤ r) = anyP L q) ∧ Below w.heap.size w w' := by
  obtain ⟨hl, hnc, hcm, hc, h0⟩ := h
  unfold maxLen at hcm
  have HL := Lib.hid hl
  have HC := Lib.hid hc
  clear hl hc
  obtain ⟨qv, hqv⟩ : ∃ v, v = q.val := ⟨_, rfl⟩
  rw [← hqv]
  have HQ := Lib.hid hqv
  clear hqv
  go_enter Try.func28, Try.ntmps28
  go_wp2
  go_loopw [8] (fun i wr => ∃ k : Nat, k ≤ n ∧ i = .int .i64 k ∧ Hid (∀ i, i < k → holdsP q (L.getD i c0) = false) ∧ Hid (Below w.heap.size w wr)) (fun i _ => n - (intOf i).toNat)
  case atStart => exact ⟨0, by omega, rfl, fun i hi => absurd hi (by omega), Below.refl _ _⟩
  case round =>
    obtain ⟨k, hk, rfl, hall, hbl⟩ := hrel
    by_cases hlt : k < n
    · have hi0 : (0 : Int) ≤ (k : Int) := by omega
      have hi5 : (k : Int) < (n : Int) := by omega
      obtain ⟨b, off, rfl, hcs⟩ := HC.out (by omega)
      have hcs2 := hcs.later hbl.out (hcs.lt (by omega))
      obtain ⟨c, hc⟩ : ∃ c, c = L.getD k c0 := ⟨_, rfl⟩
      have hk0 := hcs2 k hlt
      rw [← hc] at hk0
      have e0 : wr.cell? ⟨b, off + k * 5, none⟩ = some (.int .i64 c.cu) := hk0 0 (by omega)
      have e1 : wr.cell? ⟨b, off + k * 5 + 1, none⟩ = some (.int .i64 c.ju) := hk0 1 (by omega)
      have e2 : wr.cell? ⟨b, off + k * 5 + 2, none⟩ = some (.int .i64 c.ca) := hk0 2 (by omega)
      have e3 : wr.cell? ⟨b, off + k * 5 + 3, none⟩ = some (.int .i64 c.fr) := hk0 3 (by omega)
      have e4 : wr.cell? ⟨b, off + k * 5 + 4, none⟩ = some (.int .i64 c.to) := hk0 4 (by omega)
      have HCE := Lib.hid hc
      obtain ⟨p, hp⟩ : ∃ p, p = holdsP q c := ⟨_, rfl⟩
      have hcall : ∀ w', Calls Try.prog 21 #[qv, .agg #[.int .i64 c.cu, .int .i64 c.ju, .int .i64 c.ca, .int .i64 c.fr, .int .i64 c.to]] w' fun e w2 => e = .returned (.bool p) ∧ Below w'.heap.size w' w2 := by
        rw [hp, HQ.out]; exact holds_any q c
      have HP := Lib.hid hp
      have HX := Lib.hid hcall
      clear hcs hcs2 hk0 hc hp hcall
      cases p with
      | true =>
        go_wp2_with fail
        refine (HX.out _).mono ?_
        rintro e w1 ⟨rfl, hb1⟩
        go_wp2_with fail
        go_ret
        refine ⟨_, rfl, ?_, hbl.out.trans (hb1.mono hbl.out.size)⟩
        rw [anyP_true HL.out hlt (by rw [← HCE.out]; exact HP.out.symm)]
        simp
      | false =>
        go_wp2_with fail
        refine (HX.out _).mono ?_
        rintro e w1 ⟨rfl, hb1⟩
        go_wp2_with fail
        go_roundw
        case rel =>
          refine ⟨k + 1, by omega, by go_num, fun i hi => ?_, hbl.out.trans (hb1.mono hbl.out.size)⟩
          by_cases hik : i < k
          · exact hall.out i hik
          · obtain rfl : i = k := by omega
            rw [← HCE.out]; exact HP.out.symm
        case measure => simp [intOf]; omega
    · obtain rfl : k = n := by omega
      go_wp2
      go_ret
      refine ⟨_, rfl, ?_, hbl.out⟩
      rw [anyP_false HL.out hall.out]
      decide
theorem ContainsFunc_any (ao : Option Addr) (n cap : Nat) (L : List Crt) (q : Qst) (w : World) (h : IsCerts w ao n cap L) :
    Calls Try.prog 20 #[.slice ao n cap, .func (.func 21) #[q.val] #[]] w fun e w' => e = .returned (.bool (anyP L q)) ∧ Below w.heap.size w w' := by
  obtain ⟨p, hp⟩ : ∃ p, p = anyP L q := ⟨_, rfl⟩
  have hcall := IndexFunc_any ao n cap L q w h
  rw [← hp] at hcall ⊢
  have HX := Lib.hid hcall
  clear hcall hp h
  generalize q.val = qv at HX ⊢
  go_enter Try.func20, Try.ntmps20
  go_wp2_with fail
  refine HX.out.mono ?_
  rintro e w1 ⟨r, rfl, hr, hb1⟩
  go_wp2_with fail
  go_ret
  exact ⟨by rw [← hr]; rfl, hb1⟩
set_option maxRecDepth 100000 in
theorem Holds_any (ao : Option Addr) (n cap : Nat) (L : List Crt) (q : Qst) (w : World) (h : IsCerts w ao n cap L) :
    Calls Try.prog 10 #[.slice ao n cap, .int .i64 q.cu, .int .i64 q.ju, .int .i64 q.ca, .int .i64 q.da] w fun e w' => e = .returned (.bool (decide ((checkP L).1 = 0) && anyP L q)) ∧ Below w.heap.size w w' := by
  obtain ⟨e0, he⟩ : ∃ e, e = (checkP L).1 := ⟨_, rfl⟩
  obtain ⟨e1, he1⟩ : ∃ e, e = (checkP L).2 := ⟨_, rfl⟩
  rw [← he]
  have HE := Lib.hid he
  have HE1 := Lib.hid he1
  have HH := Lib.hid h
  clear h he he1
  by_cases hz : e0 = 0
  · subst hz
    go_enter Try.func10, Try.ntmps10
    go_wp2_with fail
    refine (Check_any _ _ _ L _ HH.out).mono ?_
    rintro e w1 ⟨rfl, hb1⟩
    rw [← HE.out, ← HE1.out]
    go_wp2_with fail
    refine (ContainsFunc_any _ _ _ L q _ (HH.out.later hb1 (Nat.le_refl _))).mono ?_
    rintro e w2 ⟨rfl, hb2⟩
    go_wp2_with fail
    go_ret
    exact ⟨by simp, hb1.trans (hb2.mono hb1.size)⟩
  · have hz1 : (e0 == 0) = false := by simpa using hz
    go_enter Try.func10, Try.ntmps10
    go_wp2_with fail
    refine (Check_any _ _ _ L _ HH.out).mono ?_
    rintro e w1 ⟨rfl, hb1⟩
    rw [← HE.out, ← HE1.out]
    go_wp2_with fail
    go_ret
    exact ⟨by simp [hz], hb1⟩
end Go.Proofs.Ytlmimocmllhbkaa
