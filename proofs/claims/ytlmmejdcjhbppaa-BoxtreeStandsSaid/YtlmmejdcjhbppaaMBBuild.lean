/- boxtree.Build; Len, Depth, Box, Order of a tree -/
import Derived.Test.YtlmmejdcjhbppaaMBPart
import Derived.Test.YtlmmejdcjhbppaaMBAsk
import Derived.WalkSpells
set_option linter.unusedSimpArgs false
set_option linter.unusedVariables false
namespace Go.Proofs.Ytlmmejdcjhbppaa
open Go.RowKit Go.Geo
attribute [local go_sem] Oper.semAt_some
theorem OwnX.none_new (w : World) (base : Nat) (hb : base ≤ w.heap.size) : OwnX (w.alloc (Obj.cells #[] 33)) base (.slice (some ⟨w.heap.size, 0, none⟩) 0 0) [] :=
  ⟨rfl, .inr ⟨_, _, #[], rfl, hb, alloc_new w _, Nat.le_refl _, by unfold maxLen; omega, rfl, rfl⟩⟩
theorem below_grownX {w w1 w' : World} {base : Nat} {v : Value} {L : List Bx} (h : Below base w w1) (hown : OwnX w1 base v L) (hg : w1.grownBy w' v.ownBlock) (hb : base ≤ w1.heap.size) : Below base w w' :=
  h.grown hg hb fun k hk => (hown.lt k hk).1
set_option maxRecDepth 100000 in
theorem Clone_boxes (ao : Option Addr) (n cap : Nat) (L : List Bx) (w : World) (h : IsX w ao n cap L) (hn : n ≤ 100000) :
    Calls Try.prog 28 #[.slice ao n cap] w fun e w' => ∃ v, e = .returned v ∧ OwnX w' w.heap.size v L ∧ Below w.heap.size w w' := by
  cases ao with
  | none =>
    obtain ⟨rfl, rfl⟩ := h.2.2.2.1 rfl
    obtain rfl : L = [] := List.eq_nil_of_length_eq_zero h.1
    have hql := fun w' => Lib.run_eql_slice_nil (P := Try.prog) w' 22 33 none 0 0 0 0 Try.underlying22
    clear h hn
    go_enter Try.func28, Try.ntmps28
    go_wp2
    go_ret
    exact ⟨_, rfl, OwnX.nil _ _, Below.refl _ _⟩
  | some ad =>
    have HS := Lib.hid h
    have hql := fun w' => Lib.run_eql_slice_nil (P := Try.prog) w' 22 33 (some ad) n cap 0 0 Try.underlying22
    clear h
    go_enter Try.func28, Try.ntmps28
    go_wp2_with (refine wpList_append_X rfl _ _ rfl w.heap.size (.slice (some ⟨w.heap.size, 0, none⟩) 0 0) [] rfl (OwnX.none_new w _ (Nat.le_refl _)) (some ad) n cap L rfl (HS.out.later ((Below.refl _ _).alloc (Nat.le_refl _) _) (Nat.le_refl _)) (by simp; omega) (by simp) ?_; intro v' w' hown hgr hfr)
    go_ret
    exact ⟨_, rfl, hown, below_grownX ((Below.refl _ _).alloc (Nat.le_refl _) _) (OwnX.none_new w _ (Nat.le_refl _)) hgr (by simp)⟩
theorem Clone_ints (ao : Option Addr) (n cap : Nat) (L : List Int) (w : World) (h : IsInts w ao n cap L) (hn : n ≤ 100000) :
    Calls Try.prog 37 #[.slice ao n cap] w fun e w' => ∃ v, e = .returned v ∧ OwnI w' w.heap.size v L ∧ Below w.heap.size w w' := by
  cases ao with
  | none =>
    obtain ⟨rfl, rfl⟩ := h.2.2.2.2 rfl
    obtain rfl : L = [] := List.eq_nil_of_length_eq_zero h.1
    have hcon := Go.Proofs.AnyG.slices_Clone_int_nil Try.cloneI 0 0 w
    change Calls Try.prog 37 _ _ _ at hcon
    refine hcon.mono ?_
    rintro e w' ⟨rfl, rfl⟩
    exact ⟨_, rfl, OwnI.nil _ _, Below.refl _ _⟩
  | some ad =>
    by_cases h0 : n = 0
    · subst h0
      obtain rfl : L = [] := List.eq_nil_of_length_eq_zero h.1
      have hcon := Go.Proofs.AnyG.slices_Clone_int_zero Try.cloneI ad cap w
      change Calls Try.prog 37 _ _ _ at hcon
      refine hcon.mono ?_
      rintro e w' ⟨v, rfl, ho, _, hb⟩
      exact ⟨v, rfl, ho, hb⟩
    · obtain ⟨b, off, e, hc⟩ := h.2.2.2.1 (by omega)
      cases e
      have hcon := Go.Proofs.AnyG.slices_Clone_int Try.cloneI b off n cap L w (by rw [h.1]; exact Nat.le_refl _) (by omega) (fun j hj => hc j (by rw [← h.1]; exact hj))
      change Calls Try.prog 37 _ _ _ at hcon
      refine hcon.mono ?_
      rintro e w' ⟨v, rfl, ho, _, hb⟩
      rw [List.take_of_length_le (by rw [h.1]; exact Nat.le_refl _)] at ho
      refine ⟨v, rfl, ?_, hb⟩
      unfold OwnI
      rw [h.1]
      exact ho
/-- the row of the order grows. -/
theorem TOwn.growO {B g : Nat} {w w' : World} {lv ov nv o1 : Value} {L : List Bx} {O M : List Int} {N : List Nd} (h : TOwn B w g lv ov nv L O N) (ho : OwnI w' B o1 M) (hg : w.grownBy w' ov.ownBlock) : TOwn B w' g lv o1 nv L M N :=
  ⟨World.ownsRow.kept h.l hg (own_apart (by decide) h.o h.l), ho, World.ownsRow.kept h.n hg (own_apart (by decide) h.o h.n), h.low⟩
theorem TreeRow.set2 {w : World} {g : Nat} {lv ov nv : Value} (h : TreeRow w g lv ov nv) (u : Value) : TreeRow (w.setCell ⟨g, 2, none⟩ u) g lv u nv := heap_setCell_same _ _ 2 _ _ u h
theorem TreeRow.grownO {B g : Nat} {w w' : World} {lv ov nv : Value} {L : List Bx} {O : List Int} {N : List Nd} (h : TreeRow w g lv ov nv) (ho : TOwn B w g lv ov nv L O N) (hg : w.grownBy w' ov.ownBlock) : TreeRow w' g lv ov nv :=
  (hg.block g (heap_lt2 h) (fun e => own_typed ho.o h (by decide) e.symm)).trans h
def BuildR (L : List Bx) (w : World) (e : Ending) (w' : World) : Prop := (1000 < L.length → e = .returned (.tuple #[.pointer none, .int .i64 3])) ∧ (L.length ≤ 1000 → ∃ g, e = .returned (.tuple #[.pointer (some ⟨g, 0, none⟩), .int .i64 0]) ∧ TreeOn w' w.heap.size g L ∧ TreeIs w' g L) ∧ Below w.heap.size w w'
theorem allI_nodup (n : Nat) : (allI n).Nodup := (allI_sorted n).imp fun h => by omega
set_option maxRecDepth 100000 in
set_option maxHeartbeats 8000000 in
theorem BuildT_any (ao : Option Addr) (n cap : Nat) (L : List Bx) (w : World) (h : IsX w ao n cap L) (hin : InB L) :
    Calls Try.prog 11 #[.slice ao n cap] w (BuildR L w) := by
  have hn := h.1
  have hcm := h.2.2.1
  have hnc := h.2.1
  unfold maxLen at hcm
  by_cases h1000 : 1000 < n
  · have h5 : (1000 : Int) < (n : Int) := by omega
    have HN := Lib.hid hn
    clear h hn
    go_enter Try.func11, Try.ntmps11
    go_wp2_with fail
    go_ret2
    exact ⟨fun _ => rfl, fun hl => absurd hl (by rw [HN.out]; omega), Below.refl _ _⟩
  · have h5 : ¬ (1000 : Int) < (n : Int) := by omega
    have HCL := Lib.hid (Clone_boxes ao n cap L w h (by omega))
    have HL := Lib.hid hn
    clear h hn
    go_enter Try.func11, Try.ntmps11
    go_wp2_with fail
    refine HCL.out.mono ?_
    rintro e w1 ⟨v, rfl, ho, hb⟩
    obtain ⟨la, lc, hv, hix⟩ := ho.is
    rw [HL.out] at hv
    obtain ⟨g, hg⟩ : ∃ g, g = w1.heap.size := ⟨_, rfl⟩
    obtain ⟨W2, hW2⟩ : ∃ W, W = w1.alloc (.cells #[.bool true, .slice la n lc, .slice none 0 0, .slice none 0 0] 55) := ⟨_, rfl⟩
    have hb2 : Below w1.heap.size w1 W2 := by rw [hW2]; exact (Below.refl _ _).alloc (Nat.le_refl _) _
    have hr2 : TreeRow W2 g (.slice la n lc) (.slice none 0 0) (.slice none 0 0) := by rw [hW2, hg]; exact alloc_new _ _
    subst hv
    have hm2 : TMem w.heap.size W2 g (.slice la n lc) (.slice none 0 0) (.slice none 0 0) L (allI 0) [] := ⟨hr2, ho.later hb2, OwnI.nil _ _, OwnN.nil _ _, by rw [hg]; exact hb.size⟩
    have HM2 := Lib.hid hm2
    have HB2 := Lib.hid (hb.trans (hb2.mono hb.size))
    have HG := Lib.hid (show w.heap.size ≤ g from by rw [hg]; exact hb.size)
    clear ho hb hix hb2 hr2 hm2
    go_wp2_with fail
    rw [← hW2, ← hg]
    clear hW2 hg
    go_loopw [15] (fun i wr => ∃ k : Nat, k ≤ n ∧ i = .int .i64 k ∧ Hid (∃ ov, TMem w.heap.size wr g (.slice la n lc) ov (.slice none 0 0) L (allI k) [] ∧ Below w.heap.size w wr)) (fun i _ => n - (intOf i).toNat)
    case atStart => exact ⟨0, by omega, rfl, Lib.hid ⟨_, HM2.out, HB2.out⟩⟩
    case round =>
      obtain ⟨k, hk, rfl, hst⟩ := hrel
      obtain ⟨ov, hm, hbl⟩ := hst.out
      have HM := Lib.hid hm
      have HBL := Lib.hid hbl
      have c2 := hm.row.cell.2.2.1
      clear hst hm hbl
      by_cases hlt : k < n
      · have hk5 : (k : Int) < (n : Int) := by omega
        have hwk : IntKind.i64.wrap ((k : Int) + 1) = (k : Int) + 1 := IntWalk.i64_in _ (by omega)
        have hm1 := HM.out.later ((Below.refl _ _).alloc (Nat.le_refl _) (.cells #[.int .i64 (k : Int)] 3))
        have HM1 := Lib.hid hm1
        have c2' := hm1.row.cell.2.2.1
        have hkl : (allI k).length + 1 ≤ 1000000000 := by rw [allI_len]; omega
        have HKL := Lib.hid hkl
        clear hm1 hkl
        go_wp2_with (at_builtin; refine wpList_append_ints rfl _ _ rfl w.heap.size ov (allI k) rfl HM1.out.own.o _ _ _ [(k : Int)] rfl (one_ints wr (k : Int)) HKL.out (by have := HBL.out.size; simp; omega) ?_
                     intro v7 w7 hown7 hg7
                     have ht7 := HM1.out.own.growO hown7 hg7
                     have hr7 := HM1.out.row.grownO HM1.out.own hg7
                     obtain ⟨a7, c7, hv7, _⟩ := hown7.ints
                     obtain ⟨n7, hn7⟩ : ∃ m, m = (allI k ++ [(k : Int)]).length := ⟨_, rfl⟩
                     rw [← hn7] at hv7
                     subst hv7
                     have hb7 : Below w.heap.size w w7 := (HBL.out.alloc HBL.out.size (.cells #[.int .i64 (k : Int)] 3)).grown hg7 (by have := HBL.out.size; simp; omega) (fun b hb => (HM1.out.own.o.lt b hb).1)
                     have hc7 := hr7.cell.2.2.1
                     have hf7 := hr7.frozen 2
                     have H8 : Hid (TMem w.heap.size (w7.setCell ⟨g, 2, none⟩ (.slice a7 n7 c7)) g (.slice la n lc) (.slice a7 n7 c7) (.slice none 0 0) L (allI k ++ [(k : Int)]) [] ∧ Below w.heap.size w (w7.setCell ⟨g, 2, none⟩ (.slice a7 n7 c7))) := Lib.hid ⟨⟨hr7.set2 _, ht7.set hr7 rfl⟩, hb7.setCell (p := ⟨g, 2, none⟩) HG.out _⟩
                     clear hown7 hg7 ht7 hr7 hb7 hn7)
        go_roundw
        case rel => exact ⟨k + 1, by omega, by go_num, Lib.hid ⟨_, by rw [allI_succ]; exact H8.out.1, H8.out.2⟩⟩
        case measure => simp [intOf]; omega
      · have hkn : n = k := by omega
        subst hkn
        have hk5 : ¬ (n : Int) < (n : Int) := by omega
        by_cases h0 : n = 0
        · subst h0
          have hz : ¬ (0 : Int) < ((0 : Nat) : Int) := by omega
          go_wp2_with fail
          go_ret2
          have hLn : L = [] := List.eq_nil_of_length_eq_zero HL.out
          have hTO : ∀ wq, (∃ lv ov nv O N, TMem w.heap.size wq g lv ov nv L O N ∧ N.length ≤ 5000 ∧ O.Perm (allI L.length) ∧ Laid L true (allI L.length) O ∧ ((L = [] ∧ N = []) ∨ TreeAt L N O 0 0 L.length)) → TreeOn wq w.heap.size g L := fun _ h => h
          have hTO2 := hTO _ ⟨_, _, _, _, _, HM.out, by simp, by rw [HL.out], by rw [HL.out]; exact .few (by rw [allI_len]; omega), .inl ⟨hLn, rfl⟩⟩
          exact ⟨fun hl => absurd hl (by rw [HL.out]; omega), fun _ => ⟨g, rfl, hTO2, ⟨_, hTO2⟩, by rw [HL.out]; omega⟩, HBL.out⟩
        · have hz : (0 : Int) < (n : Int) := by omega
          obtain ⟨ao', co, hov, hio⟩ := HM.out.own.o.ints
          rw [allI_len] at hov hio
          obtain ⟨og, _, hao, _⟩ := hio.at (i := 0) (by omega)
          have hob : ∃ og, ao' = some ⟨og, 0, none⟩ := by
            rcases HM.out.own.o.2 with ⟨e, hz0⟩ | ⟨g', _, _, e, _⟩
            · rw [allI_len] at hz0; omega
            · rw [hov] at e
              injection e with e _ _
              exact ⟨g', e⟩
          obtain ⟨og, rfl⟩ := hob
          subst hov
          have hpre : PPre w.heap.size g (.slice la n lc) (.slice (some ⟨og, 0, none⟩) n co) L 0 0 n wr (allI n) [] (.slice none 0 0) :=
            ⟨by omega, by rw [allI_len]; exact Nat.le_refl _, HM.out, allI_nodup n, fun x hx => by have := allI_mem.1 hx; rw [HL.out]; omega, by rw [allI_len]; omega, by simp, by omega, by omega⟩
          have hpa := part_any w.heap.size g L la n lc og n co hin HL.out.symm (by omega) n 0 0 n true wr (allI n) [] (.slice none 0 0) (by omega) (allI_len n).symm hpre
          have HPA := Lib.hid hpa
          clear hpa hpre hio hao
          go_wp2_with fail
          refine HPA.out.mono ?_
          rintro e w5 ⟨O', N', nv', rfl, hpo⟩
          have HPO := Lib.hid hpo
          clear hpo c2
          go_wp2_with fail
          go_ret2
          have hs0 : ∀ {O : List Int}, O.length = n → seg O 0 n = O := fun {O} hl => by unfold seg; rw [List.drop_zero, Nat.sub_zero, List.take_of_length_le (by omega)]
          have hl' := HPO.out.perm.length_eq
          rw [allI_len] at hl'
          have hlaid := HPO.out.laid
          rw [hs0 (allI_len n), hs0 hl'] at hlaid
          have hTO : ∀ wq, (∃ lv ov nv O N, TMem w.heap.size wq g lv ov nv L O N ∧ N.length ≤ 5000 ∧ O.Perm (allI L.length) ∧ Laid L true (allI L.length) O ∧ ((L = [] ∧ N = []) ∨ TreeAt L N O 0 0 L.length)) → TreeOn wq w.heap.size g L := fun _ h => h
          have hTO2 := hTO _ ⟨_, _, _, _, _, HPO.out.mem, HPO.out.small, by rw [HL.out]; exact HPO.out.perm, by rw [HL.out]; exact hlaid, .inr (by rw [HL.out]; exact HPO.out.tree)⟩
          exact ⟨fun hl => absurd hl (by rw [HL.out]; omega), fun _ => ⟨g, rfl, hTO2, ⟨_, hTO2⟩, by rw [HL.out]; omega⟩, HBL.out.trans (HPO.out.kp.below HM.out)⟩
/-- how many levels a tree of so many boxes has. -/
def depthN (n : Nat) : Nat := if n = 0 then 0 else 1 + Lib.bitLen (n - 1)
set_option maxRecDepth 100000 in
theorem LenT_any (g : Nat) (L : List Bx) (w : World) (h : TreeIs w g L) :
    Calls Try.prog 12 #[.pointer (some ⟨g, 0, none⟩)] w fun e w' => e = .returned (.int .i64 (L.length : Int)) ∧ w = w' := by
  obtain ⟨⟨B, lv, ov, nv, O, N, hm, _⟩, _⟩ := h
  obtain ⟨la, lc, hlv, _⟩ := hm.own.l.is
  have c1 := hm.row.cell.2.1
  rw [hlv] at c1
  obtain ⟨n, hn⟩ : ∃ n, n = L.length := ⟨_, rfl⟩
  rw [← hn] at c1 ⊢
  clear hm hlv hn
  go_enter Try.func12, Try.ntmps12
  go_wp2_with fail
  go_ret
  exact ⟨rfl, rfl⟩
theorem len_any (n : Nat) (w : World) (h : n ≤ 1000000) : Calls Try.prog 36 #[.int .u64 (n : Int)] w fun e w' => e = .returned (.int .i64 (Lib.bitLen n : Int)) ∧ w' = w := by
  have hcon := Go.Proofs.Any.bits_Len Try.lenI (n : Int) w (by omega) (by omega)
  change Calls Try.prog 36 _ _ _ at hcon
  simpa using hcon
theorem bitLen_le (n : Nat) (h : n ≤ 1000000) : Lib.bitLen n ≤ 64 := by
  have key : ∀ (f x : Nat), Lib.bitLenAux f x ≤ f := by
    intro f
    induction f with
    | zero => intro x; simp [Lib.bitLenAux]
    | succ f ih =>
      intro x
      unfold Lib.bitLenAux
      split
      · omega
      · have := ih (x / 2); omega
  exact key 64 n
set_option maxRecDepth 100000 in
set_option maxHeartbeats 1000000 in
theorem DepthT_any (g : Nat) (L : List Bx) (w : World) (h : TreeIs w g L) :
    Calls Try.prog 18 #[.pointer (some ⟨g, 0, none⟩)] w fun e w' => e = .returned (.int .i64 (depthN L.length : Int)) ∧ w = w' := by
  have HLE := Lib.hid (LenT_any g L w h)
  have hf := h.few
  obtain ⟨n, hn⟩ : ∃ n, n = L.length := ⟨_, rfl⟩
  rw [← hn] at HLE hf ⊢
  clear h hn
  by_cases h0 : n = 0
  · subst h0
    go_enter Try.func18, Try.ntmps18
    go_wp2_with fail
    refine HLE.out.mono ?_
    rintro e w1 ⟨rfl, rfl⟩
    go_wp2_with fail
    go_ret
    exact ⟨rfl, rfl⟩
  · obtain ⟨m, rfl⟩ : ∃ m, n = m + 1 := ⟨n - 1, by omega⟩
    have hd : depthN (m + 1) = 1 + Lib.bitLen m := by unfold depthN; rw [if_neg (by omega), Nat.add_sub_cancel]
    have hbl := bitLen_le m (by omega)
    have HLN := Lib.hid (len_any m)
    obtain ⟨b, hb⟩ : ∃ b, b = Lib.bitLen m := ⟨_, rfl⟩
    rw [← hb] at hd hbl HLN
    rw [hd]
    have e0 : ¬ ((m + 1 : Nat) : Int) = 0 := by omega
    have e1 : (((m + 1 : Nat) : Int) == 0) = false := by simp; omega
    have e2 : ((m : Int) + 1 == 0) = false := by simp; omega
    have e3 : (m : Int) + 1 - 1 = (m : Int) := by omega
    have e4 : ((m + 1 : Nat) : Int) - 1 = (m : Int) := by omega
    have hw1 : IntKind.i64.wrap (m : Int) = (m : Int) := IntWalk.i64_in _ (by omega)
    have hw2 : IntKind.u64.wrap (m : Int) = (m : Int) := by rw [wrap_u]; omega
    have hw3 : IntKind.i64.wrap (1 + (b : Int)) = 1 + (b : Int) := IntWalk.i64_in _ (by omega)
    clear hd hb h0
    go_enter Try.func18, Try.ntmps18
    go_wp2_with fail
    refine HLE.out.mono ?_
    rintro e w1 ⟨rfl, rfl⟩
    go_wp2_with fail
    refine (HLN.out w (by omega)).mono ?_
    rintro e w1 ⟨rfl, rfl⟩
    go_wp2_with fail
    go_ret
    exact ⟨by simp, rfl⟩
set_option maxRecDepth 100000 in
theorem OrderT_any (g : Nat) (L : List Bx) (w : World) (h : TreeIs w g L) :
    Calls Try.prog 19 #[.pointer (some ⟨g, 0, none⟩)] w fun e w' => ∃ v O, e = .returned v ∧ OwnI w' w.heap.size v O ∧ Laid L true (allI L.length) O ∧ Below w.heap.size w w' := by
  have hf := h.few
  obtain ⟨⟨B, lv, ov, nv, O, N, hm, _, hp, hl, _⟩, _⟩ := h
  obtain ⟨oa, oc, hov, hio⟩ := hm.own.o.ints
  have c2 := hm.row.cell.2.2.1
  rw [hov] at c2
  have HC := Lib.hid (Clone_ints oa O.length oc O w hio (by rw [hp.length_eq, allI_len]; omega))
  have HLA := Lib.hid hl
  obtain ⟨n, hn⟩ : ∃ n, n = O.length := ⟨_, rfl⟩
  rw [← hn] at c2 HC
  clear hm hov hio hp hl hn
  go_enter Try.func19, Try.ntmps19
  go_wp2_with fail
  refine HC.out.mono ?_
  rintro e w1 ⟨v, rfl, ho, hb⟩
  have H1 := Lib.hid (And.intro ho hb)
  clear ho hb
  go_wp2_with fail
  go_ret
  exact ⟨v, O, rfl, H1.out.1, HLA.out, H1.out.2⟩
end Go.Proofs.Ytlmmejdcjhbppaa
