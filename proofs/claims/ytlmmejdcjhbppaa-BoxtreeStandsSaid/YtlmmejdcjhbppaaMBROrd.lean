/- ref12.order, ref12.Order (printed by mkorder12.py) -/
import Derived.Test.YtlmmejdcjhbppaaMBRAhead
import Derived.Test.YtlmmejdcjhbppaaMBBuild
import Derived.Test.YtlmmejdcjhbppaaMBOrd1
import Derived.Test.YtlmmejdcjhbppaaMRegW
import Derived.Test.YtlmmejdcjhbppaaMRegC
set_option linter.unusedSimpArgs false
set_option linter.unusedVariables false
namespace Go.Proofs.Ytlmmejdcjhbppaa
open Go.RowKit Go.Geo
attribute [local go_sem] Oper.semAt_some
theorem OwnI.any {w : World} {base : Nat} {v : Value} {L : List Int} (h : OwnI w base v L) : ownAny v = v.ownBlock := by
  rcases h.2 with ⟨rfl, _⟩ | ⟨g', cap, cur, rfl, _⟩ <;> rfl
theorem OwnI.lit (w : World) (base : Nat) (hb : base ≤ w.heap.size) (P : List Int) (hp : P.length ≤ 1000000) : OwnI (w.alloc (.cells (flatI P).toArray 3)) base (.slice (some ⟨w.heap.size, 0, none⟩) P.length P.length) P :=
  ⟨by rw [flatI_length, Nat.mul_one], .inr ⟨_, _, (flatI P).toArray, rfl, hb, alloc_new w _, Nat.le_refl _, by unfold maxLen; omega, by simp [flatI_length], by rw [Nat.mul_one, ← flatI_length, List.take_of_length_le (by simp)]⟩⟩
theorem resInts_ok {W : World} {k i p : Nat} {c : Option Nat} {ds : List Nat} (L : List Int) : ResOk W ⟨k, i, p, c, ds, fun V w => OwnI w W.heap.size (V i) L⟩ := resRow_ok _ _ _ _
theorem IsInts.front {w : World} {b off n cap : Nat} {L : List Int} (h : IsInts w (some ⟨b, off, none⟩) n cap L) {a : Nat} (ha : a ≤ n) : IsInts w (some ⟨b, off, none⟩) a cap (L.take a) := by
  obtain ⟨h1, h2, h3, h4, h5⟩ := h
  refine ⟨by rw [List.length_take]; omega, by omega, h3, fun hn => ?_, fun h => by cases h⟩
  obtain ⟨b', o', e, hc⟩ := h4 (by omega)
  cases e
  refine ⟨_, _, rfl, fun i hi => ?_⟩
  rw [show (L.take a).getD i 0 = L.getD i 0 by rw [List.getD_eq_getElem?_getD, List.getD_eq_getElem?_getD, List.getElem?_take, if_pos hi]]
  exact hc i (by omega)
theorem IsInts.back {w : World} {b off n cap : Nat} {L : List Int} (h : IsInts w (some ⟨b, off, none⟩) n cap L) {a : Nat} (ha : a ≤ n) : IsInts w (if cap = a then some ⟨b, off, none⟩ else some ⟨b, off + a, none⟩) (n - a) (cap - a) (L.drop a) := by
  obtain ⟨h1, h2, h3, h4, h5⟩ := h
  refine ⟨by rw [List.length_drop]; omega, by omega, by omega, fun hn => ?_, fun h => by split at h <;> cases h⟩
  obtain ⟨b', o', e, hc⟩ := h4 (by omega)
  cases e
  rw [if_neg (by omega)]
  refine ⟨_, _, rfl, fun i hi => ?_⟩
  rw [show (L.drop a).getD i 0 = L.getD (a + i) 0 by rw [List.getD_eq_getElem?_getD, List.getD_eq_getElem?_getD, List.getElem?_drop]]
  have := hc (a + i) (by omega)
  rwa [← Nat.add_assoc] at this
def IsR (w : World) (v : Value) (O : List Int) : Prop := ∃ oo oc, v = .slice oo O.length oc ∧ IsInts w oo O.length oc O
theorem IsR.later {w w' : World} {v : Value} {O : List Int} (h : IsR w v O) (hb : Below w.heap.size w w') : IsR w' v O := by
  obtain ⟨oo, oc, e, h⟩ := h
  exact ⟨oo, oc, e, h.later hb (Nat.le_refl _)⟩
def OrdR (L : List Bx) (ac : Bool) (p : List Int) (w : World) (e : Ending) (w' : World) : Prop := ∃ v O, e = .returned v ∧ IsR w' v O ∧ Laid L ac p O ∧ Below w.heap.size w w'
/-- the stages of the two halves' answers, laid one behind the other. -/
def OrS (L : List Bx) (ac : Bool) (S : List Int) (h : Nat) (W : World) : List Value → (Nat → Option Value) → World → Prop
  | [], F, w => Below W.heap.size W w ∧ (∀ v, F 0 = some v → OwnI w W.heap.size v [])
  | [a], F, w => Below W.heap.size W w ∧ (∀ v, F 0 = some v → OwnI w W.heap.size v []) ∧ ∃ O, IsR w a O ∧ Laid L ac (S.take h) O
  | [_, b], _, w => Below W.heap.size W w ∧ ∃ O, OwnI w W.heap.size b O ∧ Laid L ac (S.take h) O
  | [_, b, c], _, w => Below W.heap.size W w ∧ ∃ O Q, OwnI w W.heap.size b O ∧ Laid L ac (S.take h) O ∧ IsR w c Q ∧ Laid L ac (S.drop h) Q
  | [_, _, _, d], _, w => Below W.heap.size W w ∧ ∃ O Q, OwnI w W.heap.size d (O ++ Q) ∧ Laid L ac (S.take h) O ∧ Laid L ac (S.drop h) Q
  | _ :: _ :: _ :: _ :: e :: _, _, w => Below W.heap.size W w ∧ ∃ O Q, OwnI w W.heap.size e (O ++ Q) ∧ Laid L ac (S.take h) O ∧ Laid L ac (S.drop h) Q
theorem OrS.float {L : List Bx} {ac : Bool} {S : List Int} {h : Nat} {W w : World} {vs : List Value} {F : Nat → Option Value} (hs : OrS L ac S h W vs F w) : OrS L ac S h W vs (upd F 0 (some (.slice (some ⟨w.heap.size, 0, none⟩) 0 0))) (w.alloc (Obj.cells #[] 3)) := by
  have hb : Below w.heap.size w (w.alloc (Obj.cells #[] 3)) := (Below.refl _ _).alloc (Nat.le_refl _) _
  match vs, hs with
  | [], ⟨h1, h2⟩ => exact ⟨h1.trans (hb.mono h1.size), fun v hv => by rw [upd_at] at hv; cases hv; exact OwnI.none_new w _ h1.size⟩
  | [a], ⟨h1, h2, O, hR, hL⟩ => exact ⟨h1.trans (hb.mono h1.size), fun v hv => by rw [upd_at] at hv; cases hv; exact OwnI.none_new w _ h1.size, O, hR.later hb, hL⟩
  | [_, b], ⟨h1, O, hO, hL⟩ => exact ⟨h1.trans (hb.mono h1.size), O, hO.later hb, hL⟩
  | [_, b, c], ⟨h1, O, Q, hO, hL, hR, hQ⟩ => exact ⟨h1.trans (hb.mono h1.size), O, Q, hO.later hb, hL, hR.later hb, hQ⟩
  | [_, _, _, d], ⟨h1, O, Q, hO, hL, hQ⟩ => exact ⟨h1.trans (hb.mono h1.size), O, Q, hO.later hb, hL, hQ⟩
  | _ :: _ :: _ :: _ :: e :: _, ⟨h1, O, Q, hO, hL, hQ⟩ => exact ⟨h1.trans (hb.mono h1.size), O, Q, hO.later hb, hL, hQ⟩
theorem getD_mem {p : List Int} {i : Nat} (h : i < p.length) : p.getD i 0 ∈ p := by
  rw [List.getD_eq_getElem?_getD, List.getElem?_eq_getElem h]; exact List.getElem_mem _
theorem take_snoc {p : List Int} {i : Nat} (h : i < p.length) : p.take (i + 1) = p.take i ++ [p.getD i 0] := by
  rw [List.take_add_one, List.getElem?_eq_getElem h, List.getD_eq_getElem?_getD, List.getElem?_eq_getElem h]; rfl
theorem notin_take {p : List Int} {i : Nat} (h : i < p.length) (hn : p.Nodup) : p.getD i 0 ∉ p.take i := by
  intro hm
  have h2 : (p.take (i + 1)).Nodup := hn.sublist (List.take_sublist _ _)
  rw [take_snoc h, List.nodup_append] at h2
  exact h2.2.2 _ hm _ (List.mem_singleton_self _) rfl
set_option maxRecDepth 100000 in
set_option maxHeartbeats 1000000 in
theorem ROrd_few (ao : Option Addr) (n cap : Nat) (L : List Bx) (po : Option Addr) (m pc : Nat) (p : List Int) (lev : Nat) (ac : Bool) (w : World) (h2 : m < 2) (hp : IsInts w po m pc p) :
    Calls Try.prog 39 #[.slice ao n cap, .slice po m pc, .int .i64 (lev : Int)] w (OrdR L ac p w) := by
  have HL := Lib.hid hp.1
  have HP := Lib.hid hp
  have h5 : (m : Int) < 2 := by omega
  clear hp
  go_enter Try.func39, Try.ntmps39
  go_wp2_with fail
  go_ret
  exact ⟨_, p, rfl, ⟨po, pc, by rw [HL.out]; rfl, by rw [HL.out]; exact HP.out⟩, .few (by rw [HL.out]; exact h2), Below.refl _ _⟩
set_option maxRecDepth 100000 in
set_option maxHeartbeats 16000000 in
theorem ROrd_any (ao : Option Addr) (n cap : Nat) (L : List Bx) (hin : InB L) (hn5 : n ≤ 1000) : ∀ (N : Nat) (po : Option Addr) (m pc : Nat) (p : List Int) (lev : Nat) (ac : Bool) (w : World), m ≤ N → N + lev ≤ 2000 → ac = decide (lev % 2 = 0) → IsX w ao n cap L → IsInts w po m pc p → p.Nodup → (∀ x ∈ p, 0 ≤ x ∧ x < (n : Int)) →
    Calls Try.prog 39 #[.slice ao n cap, .slice po m pc, .int .i64 (lev : Int)] w (OrdR L ac p w) := by
  intro N
  induction N with
  | zero => exact fun po m pc p lev ac w hm _ _ _ hp _ _ => ROrd_few ao n cap L po m pc p lev ac w (by omega) hp
  | succ N ih =>
  intro po m pc p lev ac w hm hN hac hx hp hnd hrg
  by_cases h2 : m < 2
  · exact ROrd_few ao n cap L po m pc p lev ac w h2 hp
  have h5 : ¬ (m : Int) < 2 := by omega
  have hpc := hp.2.1
  have hpcm : pc ≤ 9223372036854775807 := hp.2.2.1
  have hxc := hx.2.1
  have hxcm : cap ≤ 9223372036854775807 := hx.2.2.1
  have HPL := Lib.hid hp.1
  have HX := Lib.hid hx
  have HPP := Lib.hid hp
  have HND := Lib.hid hnd
  have HRG := Lib.hid hrg
  have HIH := Lib.hid ih
  have HAC := Lib.hid hac
  have HIN := Lib.hid hin
  have HLN := Lib.hid hx.1
  obtain ⟨lev1, hlev1⟩ : ∃ l : Nat, l = lev + 1 := ⟨_, rfl⟩
  have HL1 := Lib.hid hlev1
  have HLV : Hid (IntKind.i64.wrap ((lev : Int) + 1) = (lev1 : Int)) := Lib.hid (by rw [IntWalk.i64_in _ (by omega), hlev1]; omega)
  clear hx hp hnd hrg ih hac hlev1 hin
  go_enter Try.func39, Try.ntmps39
  go_wp2_with fail
  go_loopw [7, 8] (fun sv iv wr => ∃ i : Nat, i ≤ m ∧ iv = .int .i64 i ∧ Hid (∃ S, OwnI wr w.heap.size sv S ∧ (S = [] → sv = .slice none 0 0) ∧ S.Perm (p.take i) ∧ S.Pairwise (ltI L ac)) ∧ Hid (Below w.heap.size w wr)) (fun _ iv _ => m - (intOf iv).toNat)
  case atStart => exact ⟨0, by omega, rfl, Lib.hid ⟨[], OwnI.nil _ _, fun _ => rfl, List.Perm.refl _, List.Pairwise.nil⟩, Lib.hid (Below.refl _ _)⟩
  case round =>
    rename_i sv iv
    obtain ⟨i, hi, rfl, hst, hbl⟩ := hrel
    obtain ⟨S, hown, hnil, hpm, hsrt⟩ := hst.out
    clear hst
    have hSl : S.length = i := by rw [hpm.length_eq, List.length_take, HPL.out]; omega
    by_cases hlt : i < m
    · have hi0 : (0 : Int) ≤ (i : Int) := by omega
      have hi5 : (i : Int) < (m : Int) := by omega
      have hwi : IntKind.i64.wrap ((i : Int) + 1) = (i : Int) + 1 := IntWalk.i64_in _ (by omega)
      have hip : i < p.length := by rw [HPL.out]; exact hlt
      obtain ⟨xn, hxn, hxl⟩ : ∃ xn : Nat, p.getD i 0 = (xn : Int) ∧ xn < n := by
        obtain ⟨h1, h2⟩ := HRG.out _ (getD_mem hip)
        exact ⟨(p.getD i 0).toNat, by omega, by omega⟩
      have hxS : (xn : Int) ∉ S := fun hm => notin_take hip HND.out (by rw [hxn]; exact hpm.subset hm)
      have HSTEP : Hid (∀ k, k ≤ S.length → (∀ y ∈ S.drop k, ltI L ac (xn : Int) y) → (k = 0 ∨ ¬ ltI L ac (xn : Int) (S.getD (k - 1) 0)) → ([] ++ S.take k ++ [(xn : Int)] ++ S.drop k).Perm (p.take (i + 1)) ∧ ([] ++ S.take k ++ [(xn : Int)] ++ S.drop k).Pairwise (ltI L ac)) := Lib.hid (fun k hk hup hlow => by
        rw [List.nil_append]
        refine ⟨?_, insert_sorted hsrt hk hxS hup hlow⟩
        rw [take_snoc hip, hxn]
        exact (insert_perm (S := S) (x := (xn : Int)) (k := k)).trans (hpm.append (List.Perm.refl _)))
      obtain ⟨pb, pf, hpo, hpat⟩ := HPP.out.2.2.2.1 (by omega)
      subst hpo
      have HPI := Lib.hid (And.intro hi5 hi0)
      have GPC : Hid (∀ wX, Below wr.heap.size wr wX → wX.cell? ⟨pb, pf + i, none⟩ = some (.int .i64 (xn : Int))) := Lib.hid (fun wX hX => by
        have := hpat i hlt
        rw [hxn] at this
        exact ((hbl.out.trans (hX.mono hbl.out.size)).cell (p := ⟨pb, pf + i, none⟩) (block_lt_of_cell this)).trans this)
      have HSL := Lib.hid hSl
      have HWI := Lib.hid hwi
      have HI5 := Lib.hid (And.intro hi hlt)
      by_cases hS0 : S = []
      · have hv := hnil hS0
        subst hv
        obtain ⟨k, hk⟩ : ∃ k : Nat, k = 0 := ⟨_, rfl⟩
        have HRES := Lib.hid (HSTEP.out k (by omega) (by rw [hS0]; simp) (.inl hk))
        have HTKG : Hid (S.take k = [] ∧ S.drop k = []) := Lib.hid (by rw [hS0]; simp)
        have HKZ : Hid (¬ (0 : Int) < 0) := Lib.hid (by omega)
        have HLN2 : Hid (([] ++ S.take k : List Int).length + [(xn : Int)].length ≤ 1000000000) := Lib.hid (by rw [hS0]; simp)
        have HLN3 : Hid (([] ++ S.take k ++ [(xn : Int)] : List Int).length + 0 ≤ 1000000000) := Lib.hid (by rw [hS0]; simp)
        have HLN1 : Hid (([] : List Int).length + 0 ≤ 1000000000) := Lib.hid (by simp)
        clear hown hnil hpm hsrt hSl hS0 hk hxS hxn hpat hip hxl
        go_wp2_with fail
        go_loopw [9] (fun kv wr2 => kv = .int .i64 0 ∧ wr2 = wr) (fun _ _ => 0)
        case atStart => exact ⟨rfl, rfl⟩
        case round =>
          obtain ⟨rfl, rfl⟩ := hrel
          go_wp2_with fail
          have HOK : ∀ f ∈ ([] : List Fct), FctOk f := by
            intro f hf; cases hf
          refine wp_region_J (s := [(23, 0), (24, 1), (25, 2), (26, 3), (27, 4), (28, 5), (29, 6), (30, 7), (31, 8), (32, 9), (33, 10), (34, 11), (35, 12), (36, 13), (37, 14), (38, 15), (39, 16), (40, 17), (41, 18), (42, 19), (43, 20), (44, 21), (45, 22), (46, 23), (47, 24), (48, 25), (49, 26), (50, 27), (51, 28), (52, 29), (53, 30), (54, 31), (55, 32), (56, 33), (57, 34), (58, 35), (59, 36), (60, 37), (61, 38), (62, 39), (63, 40), (64, 41), (65, 42), (66, 43), (67, 44), (68, 45), (69, 46), (70, 47), (71, 48), (72, 49), (73, 50), (74, 51), (75, 52)]) (by kernel_rfl) (GrowJ wr (fun iX => match iX with | 0 => some (.int .i64 0) | 1 => some (.bool false) | 2 => some (.bool false) | 3 => some (undef) | 4 => some (undef) | 5 => some (undef) | 6 => some (undef) | 7 => some (undef) | 8 => some (undef) | 9 => some (undef) | 10 => some (undef) | 11 => some (undef) | 12 => some (undef) | 13 => some (undef) | 14 => some (undef) | 15 => some (undef) | 16 => some (undef) | 17 => some (undef) | 18 => some (undef) | 19 => some (undef) | 20 => some (undef) | 21 => some (undef) | 22 => some (undef) | 23 => some (undef) | 24 => some (undef) | 25 => some (undef) | 26 => some (undef) | 27 => some (undef) | 28 => some (undef) | 29 => some (undef) | 30 => some (undef) | 31 => some (undef) | 32 => some (undef) | 33 => some (undef) | 34 => some (undef) | 35 => some (undef) | 36 => some (undef) | 37 => some (undef) | 38 => some (undef) | 39 => some (undef) | 40 => some (undef) | 41 => some (undef) | 42 => some (undef) | 43 => some (undef) | 44 => some (undef) | 45 => some (undef) | 46 => some (undef) | 47 => some (undef) | 48 => some (undef) | 49 => some (undef) | 50 => some (undef) | 51 => some (undef) | 52 => some (.bool false) | _ => none) []) (by kernel_rfl) (by kernel_rfl) (by kernel_rfl) (by kernel_rfl) (fun _ => undef) ?start8zero ?step8zero ?done8zero
          case start8zero => exact GrowJ.start ((Below.refl _ _).drew)
          case step8zero =>
            refine ⟨?o8zero_0, ?o8zero_1, ?o8zero_2, ?o8zero_3, ?o8zero_4, ?o8zero_5, ?o8zero_6, ?o8zero_7, ?o8zero_8, ?o8zero_9, ?o8zero_10, ?o8zero_11, ?o8zero_12, ?o8zero_13, ?o8zero_14, ?o8zero_15, ?o8zero_16, ?o8zero_17, ?o8zero_18, ?o8zero_19, ?o8zero_20, ?o8zero_21, ?o8zero_22, ?o8zero_23, ?o8zero_24, ?o8zero_25, ?o8zero_26, ?o8zero_27, ?o8zero_28, ?o8zero_29, ?o8zero_30, ?o8zero_31, ?o8zero_32, ?o8zero_33, ?o8zero_34, ?o8zero_35, ?o8zero_36, ?o8zero_37, ?o8zero_38, ?o8zero_39, ?o8zero_40, ?o8zero_41, ?o8zero_42, ?o8zero_43, ?o8zero_44, ?o8zero_45, ?o8zero_46, ?o8zero_47, ?o8zero_48, ?o8zero_49, ?o8zero_50, ?o8zero_51, ?o8zero_52, trivial⟩
            case o8zero_0 =>
              intro LX V aX wX K hl hp hcl hf hJ hK
              have t9 : aX.tmps[9]? = some (.int .i64 0) := hf.old (by kernel_rfl) rfl
              rw [if_pos (by rfl)]
              go_simp
              exact hK _ _ (hJ.val HOK 0 _ (by kernel_rfl) rfl (Below.refl _ _))
            case o8zero_1 =>
              intro LX V aX wX K hl hp hcl hf hJ hK
              have t23 := hf.in (i := 0) (d := 23) (by kernel_rfl) (hp 0 (by kernel_rfl)) (hJ.vals 0 _ rfl (hp 0 (by kernel_rfl)))
              have hkz := HKZ.out
              rw [if_pos (by rfl)]
              go_simp
              exact hK _ _ (hJ.val HOK 1 _ (by kernel_rfl) rfl (Below.refl _ _))
            case o8zero_2 =>
              intro LX V aX wX K hl hp hcl hf hJ hK
              have t24 := hf.in (i := 1) (d := 24) (by kernel_rfl) (hp 1 (by kernel_rfl)) (hJ.vals 1 _ rfl (hp 1 (by kernel_rfl)))
              rw [if_pos (by rfl)]
              go_simp
              exact hK _ _ (hJ.val HOK 2 _ (by kernel_rfl) rfl (Below.refl _ _))
            case o8zero_3 =>
              intro LX V aX wX K hl hp hcl hf hJ hK
              have t25 := hf.in (i := 2) (d := 25) (by kernel_rfl) (hp 2 (by kernel_rfl)) (hJ.vals 2 _ rfl (hp 2 (by kernel_rfl)))
              rw [if_neg (by rw [wanted_not (b := true) rfl rfl t25]; exact Bool.false_ne_true)]
              exact hK _ _ (hJ.val HOK 3 _ (by kernel_rfl) rfl (Below.refl _ _))
            case o8zero_4 =>
              intro LX V aX wX K hl hp hcl hf hJ hK
              have t25 := hf.in (i := 2) (d := 25) (by kernel_rfl) (hp 2 (by kernel_rfl)) (hJ.vals 2 _ rfl (hp 2 (by kernel_rfl)))
              rw [if_neg (by rw [wanted_not (b := true) rfl rfl t25]; exact Bool.false_ne_true)]
              exact hK _ _ (hJ.val HOK 4 _ (by kernel_rfl) rfl (Below.refl _ _))
            case o8zero_5 =>
              intro LX V aX wX K hl hp hcl hf hJ hK
              have t25 := hf.in (i := 2) (d := 25) (by kernel_rfl) (hp 2 (by kernel_rfl)) (hJ.vals 2 _ rfl (hp 2 (by kernel_rfl)))
              rw [if_neg (by rw [wanted_not (b := true) rfl rfl t25]; exact Bool.false_ne_true)]
              exact hK _ _ (hJ.val HOK 5 _ (by kernel_rfl) rfl (Below.refl _ _))
            case o8zero_6 =>
              intro LX V aX wX K hl hp hcl hf hJ hK
              have t25 := hf.in (i := 2) (d := 25) (by kernel_rfl) (hp 2 (by kernel_rfl)) (hJ.vals 2 _ rfl (hp 2 (by kernel_rfl)))
              rw [if_neg (by rw [wanted_not (b := true) rfl rfl t25]; exact Bool.false_ne_true)]
              exact hK _ _ (hJ.val HOK 6 _ (by kernel_rfl) rfl (Below.refl _ _))
            case o8zero_7 =>
              intro LX V aX wX K hl hp hcl hf hJ hK
              have t25 := hf.in (i := 2) (d := 25) (by kernel_rfl) (hp 2 (by kernel_rfl)) (hJ.vals 2 _ rfl (hp 2 (by kernel_rfl)))
              rw [if_neg (by rw [wanted_not (b := true) rfl rfl t25]; exact Bool.false_ne_true)]
              exact hK _ _ (hJ.val HOK 7 _ (by kernel_rfl) rfl (Below.refl _ _))
            case o8zero_8 =>
              intro LX V aX wX K hl hp hcl hf hJ hK
              have t25 := hf.in (i := 2) (d := 25) (by kernel_rfl) (hp 2 (by kernel_rfl)) (hJ.vals 2 _ rfl (hp 2 (by kernel_rfl)))
              rw [if_neg (by rw [wanted_not (b := true) rfl rfl t25]; exact Bool.false_ne_true)]
              exact hK _ _ (hJ.val HOK 8 _ (by kernel_rfl) rfl (Below.refl _ _))
            case o8zero_9 =>
              intro LX V aX wX K hl hp hcl hf hJ hK
              have t25 := hf.in (i := 2) (d := 25) (by kernel_rfl) (hp 2 (by kernel_rfl)) (hJ.vals 2 _ rfl (hp 2 (by kernel_rfl)))
              rw [if_neg (by rw [wanted_not (b := true) rfl rfl t25]; exact Bool.false_ne_true)]
              exact hK _ _ (hJ.val HOK 9 _ (by kernel_rfl) rfl (Below.refl _ _))
            case o8zero_10 =>
              intro LX V aX wX K hl hp hcl hf hJ hK
              have t25 := hf.in (i := 2) (d := 25) (by kernel_rfl) (hp 2 (by kernel_rfl)) (hJ.vals 2 _ rfl (hp 2 (by kernel_rfl)))
              rw [if_neg (by rw [wanted_not (b := true) rfl rfl t25]; exact Bool.false_ne_true)]
              exact hK _ _ (hJ.val HOK 10 _ (by kernel_rfl) rfl (Below.refl _ _))
            case o8zero_11 =>
              intro LX V aX wX K hl hp hcl hf hJ hK
              have t25 := hf.in (i := 2) (d := 25) (by kernel_rfl) (hp 2 (by kernel_rfl)) (hJ.vals 2 _ rfl (hp 2 (by kernel_rfl)))
              rw [if_neg (by rw [wanted_not (b := true) rfl rfl t25]; exact Bool.false_ne_true)]
              exact hK _ _ (hJ.val HOK 11 _ (by kernel_rfl) rfl (Below.refl _ _))
            case o8zero_12 =>
              intro LX V aX wX K hl hp hcl hf hJ hK
              have t25 := hf.in (i := 2) (d := 25) (by kernel_rfl) (hp 2 (by kernel_rfl)) (hJ.vals 2 _ rfl (hp 2 (by kernel_rfl)))
              rw [if_neg (by rw [wanted_not (b := true) rfl rfl t25]; exact Bool.false_ne_true)]
              exact hK _ _ (hJ.val HOK 12 _ (by kernel_rfl) rfl (Below.refl _ _))
            case o8zero_13 =>
              intro LX V aX wX K hl hp hcl hf hJ hK
              have t25 := hf.in (i := 2) (d := 25) (by kernel_rfl) (hp 2 (by kernel_rfl)) (hJ.vals 2 _ rfl (hp 2 (by kernel_rfl)))
              rw [if_neg (by rw [wanted_not (b := true) rfl rfl t25]; exact Bool.false_ne_true)]
              exact hK _ _ (hJ.val HOK 13 _ (by kernel_rfl) rfl (Below.refl _ _))
            case o8zero_14 =>
              intro LX V aX wX K hl hp hcl hf hJ hK
              have t25 := hf.in (i := 2) (d := 25) (by kernel_rfl) (hp 2 (by kernel_rfl)) (hJ.vals 2 _ rfl (hp 2 (by kernel_rfl)))
              rw [if_neg (by rw [wanted_not (b := true) rfl rfl t25]; exact Bool.false_ne_true)]
              exact hK _ _ (hJ.val HOK 14 _ (by kernel_rfl) rfl (Below.refl _ _))
            case o8zero_15 =>
              intro LX V aX wX K hl hp hcl hf hJ hK
              have t25 := hf.in (i := 2) (d := 25) (by kernel_rfl) (hp 2 (by kernel_rfl)) (hJ.vals 2 _ rfl (hp 2 (by kernel_rfl)))
              rw [if_neg (by rw [wanted_not (b := true) rfl rfl t25]; exact Bool.false_ne_true)]
              exact hK _ _ (hJ.val HOK 15 _ (by kernel_rfl) rfl (Below.refl _ _))
            case o8zero_16 =>
              intro LX V aX wX K hl hp hcl hf hJ hK
              have t25 := hf.in (i := 2) (d := 25) (by kernel_rfl) (hp 2 (by kernel_rfl)) (hJ.vals 2 _ rfl (hp 2 (by kernel_rfl)))
              rw [if_neg (by rw [wanted_not (b := true) rfl rfl t25]; exact Bool.false_ne_true)]
              exact hK _ _ (hJ.val HOK 16 _ (by kernel_rfl) rfl (Below.refl _ _))
            case o8zero_17 =>
              intro LX V aX wX K hl hp hcl hf hJ hK
              have t25 := hf.in (i := 2) (d := 25) (by kernel_rfl) (hp 2 (by kernel_rfl)) (hJ.vals 2 _ rfl (hp 2 (by kernel_rfl)))
              rw [if_neg (by rw [wanted_not (b := true) rfl rfl t25]; exact Bool.false_ne_true)]
              exact hK _ _ (hJ.val HOK 17 _ (by kernel_rfl) rfl (Below.refl _ _))
            case o8zero_18 =>
              intro LX V aX wX K hl hp hcl hf hJ hK
              have t25 := hf.in (i := 2) (d := 25) (by kernel_rfl) (hp 2 (by kernel_rfl)) (hJ.vals 2 _ rfl (hp 2 (by kernel_rfl)))
              rw [if_neg (by rw [wanted_not (b := true) rfl rfl t25]; exact Bool.false_ne_true)]
              exact hK _ _ (hJ.val HOK 18 _ (by kernel_rfl) rfl (Below.refl _ _))
            case o8zero_19 =>
              intro LX V aX wX K hl hp hcl hf hJ hK
              have t25 := hf.in (i := 2) (d := 25) (by kernel_rfl) (hp 2 (by kernel_rfl)) (hJ.vals 2 _ rfl (hp 2 (by kernel_rfl)))
              rw [if_neg (by rw [wanted_not (b := true) rfl rfl t25]; exact Bool.false_ne_true)]
              exact hK _ _ (hJ.val HOK 19 _ (by kernel_rfl) rfl (Below.refl _ _))
            case o8zero_20 =>
              intro LX V aX wX K hl hp hcl hf hJ hK
              have t25 := hf.in (i := 2) (d := 25) (by kernel_rfl) (hp 2 (by kernel_rfl)) (hJ.vals 2 _ rfl (hp 2 (by kernel_rfl)))
              rw [if_neg (by rw [wanted_not (b := true) rfl rfl t25]; exact Bool.false_ne_true)]
              exact hK _ _ (hJ.val HOK 20 _ (by kernel_rfl) rfl (Below.refl _ _))
            case o8zero_21 =>
              intro LX V aX wX K hl hp hcl hf hJ hK
              have t43 := hf.in (i := 20) (d := 43) (by kernel_rfl) (hp 20 (by kernel_rfl)) (hJ.vals 20 _ rfl (hp 20 (by kernel_rfl)))
              rw [if_neg (by rw [wanted_none rfl rfl t43]; exact Bool.false_ne_true)]
              exact hK _ _ (hJ.val HOK 21 _ (by kernel_rfl) rfl (Below.refl _ _))
            case o8zero_22 =>
              intro LX V aX wX K hl hp hcl hf hJ hK
              have t43 := hf.in (i := 20) (d := 43) (by kernel_rfl) (hp 20 (by kernel_rfl)) (hJ.vals 20 _ rfl (hp 20 (by kernel_rfl)))
              rw [if_neg (by rw [wanted_none rfl rfl t43]; exact Bool.false_ne_true)]
              exact hK _ _ (hJ.val HOK 22 _ (by kernel_rfl) rfl (Below.refl _ _))
            case o8zero_23 =>
              intro LX V aX wX K hl hp hcl hf hJ hK
              have t43 := hf.in (i := 20) (d := 43) (by kernel_rfl) (hp 20 (by kernel_rfl)) (hJ.vals 20 _ rfl (hp 20 (by kernel_rfl)))
              rw [if_neg (by rw [wanted_none rfl rfl t43]; exact Bool.false_ne_true)]
              exact hK _ _ (hJ.val HOK 23 _ (by kernel_rfl) rfl (Below.refl _ _))
            case o8zero_24 =>
              intro LX V aX wX K hl hp hcl hf hJ hK
              have t43 := hf.in (i := 20) (d := 43) (by kernel_rfl) (hp 20 (by kernel_rfl)) (hJ.vals 20 _ rfl (hp 20 (by kernel_rfl)))
              rw [if_neg (by rw [wanted_none rfl rfl t43]; exact Bool.false_ne_true)]
              exact hK _ _ (hJ.val HOK 24 _ (by kernel_rfl) rfl (Below.refl _ _))
            case o8zero_25 =>
              intro LX V aX wX K hl hp hcl hf hJ hK
              have t43 := hf.in (i := 20) (d := 43) (by kernel_rfl) (hp 20 (by kernel_rfl)) (hJ.vals 20 _ rfl (hp 20 (by kernel_rfl)))
              rw [if_neg (by rw [wanted_none rfl rfl t43]; exact Bool.false_ne_true)]
              exact hK _ _ (hJ.val HOK 25 _ (by kernel_rfl) rfl (Below.refl _ _))
            case o8zero_26 =>
              intro LX V aX wX K hl hp hcl hf hJ hK
              have t43 := hf.in (i := 20) (d := 43) (by kernel_rfl) (hp 20 (by kernel_rfl)) (hJ.vals 20 _ rfl (hp 20 (by kernel_rfl)))
              rw [if_neg (by rw [wanted_none rfl rfl t43]; exact Bool.false_ne_true)]
              exact hK _ _ (hJ.val HOK 26 _ (by kernel_rfl) rfl (Below.refl _ _))
            case o8zero_27 =>
              intro LX V aX wX K hl hp hcl hf hJ hK
              have t43 := hf.in (i := 20) (d := 43) (by kernel_rfl) (hp 20 (by kernel_rfl)) (hJ.vals 20 _ rfl (hp 20 (by kernel_rfl)))
              rw [if_neg (by rw [wanted_none rfl rfl t43]; exact Bool.false_ne_true)]
              exact hK _ _ (hJ.val HOK 27 _ (by kernel_rfl) rfl (Below.refl _ _))
            case o8zero_28 =>
              intro LX V aX wX K hl hp hcl hf hJ hK
              have t43 := hf.in (i := 20) (d := 43) (by kernel_rfl) (hp 20 (by kernel_rfl)) (hJ.vals 20 _ rfl (hp 20 (by kernel_rfl)))
              rw [if_neg (by rw [wanted_none rfl rfl t43]; exact Bool.false_ne_true)]
              exact hK _ _ (hJ.val HOK 28 _ (by kernel_rfl) rfl (Below.refl _ _))
            case o8zero_29 =>
              intro LX V aX wX K hl hp hcl hf hJ hK
              have t43 := hf.in (i := 20) (d := 43) (by kernel_rfl) (hp 20 (by kernel_rfl)) (hJ.vals 20 _ rfl (hp 20 (by kernel_rfl)))
              rw [if_neg (by rw [wanted_none rfl rfl t43]; exact Bool.false_ne_true)]
              exact hK _ _ (hJ.val HOK 29 _ (by kernel_rfl) rfl (Below.refl _ _))
            case o8zero_30 =>
              intro LX V aX wX K hl hp hcl hf hJ hK
              have t43 := hf.in (i := 20) (d := 43) (by kernel_rfl) (hp 20 (by kernel_rfl)) (hJ.vals 20 _ rfl (hp 20 (by kernel_rfl)))
              rw [if_neg (by rw [wanted_none rfl rfl t43]; exact Bool.false_ne_true)]
              exact hK _ _ (hJ.val HOK 30 _ (by kernel_rfl) rfl (Below.refl _ _))
            case o8zero_31 =>
              intro LX V aX wX K hl hp hcl hf hJ hK
              have t43 := hf.in (i := 20) (d := 43) (by kernel_rfl) (hp 20 (by kernel_rfl)) (hJ.vals 20 _ rfl (hp 20 (by kernel_rfl)))
              rw [if_neg (by rw [wanted_none rfl rfl t43]; exact Bool.false_ne_true)]
              exact hK _ _ (hJ.val HOK 31 _ (by kernel_rfl) rfl (Below.refl _ _))
            case o8zero_32 =>
              intro LX V aX wX K hl hp hcl hf hJ hK
              have t43 := hf.in (i := 20) (d := 43) (by kernel_rfl) (hp 20 (by kernel_rfl)) (hJ.vals 20 _ rfl (hp 20 (by kernel_rfl)))
              rw [if_neg (by rw [wanted_none rfl rfl t43]; exact Bool.false_ne_true)]
              exact hK _ _ (hJ.val HOK 32 _ (by kernel_rfl) rfl (Below.refl _ _))
            case o8zero_33 =>
              intro LX V aX wX K hl hp hcl hf hJ hK
              have t43 := hf.in (i := 20) (d := 43) (by kernel_rfl) (hp 20 (by kernel_rfl)) (hJ.vals 20 _ rfl (hp 20 (by kernel_rfl)))
              rw [if_neg (by rw [wanted_none rfl rfl t43]; exact Bool.false_ne_true)]
              exact hK _ _ (hJ.val HOK 33 _ (by kernel_rfl) rfl (Below.refl _ _))
            case o8zero_34 =>
              intro LX V aX wX K hl hp hcl hf hJ hK
              have t43 := hf.in (i := 20) (d := 43) (by kernel_rfl) (hp 20 (by kernel_rfl)) (hJ.vals 20 _ rfl (hp 20 (by kernel_rfl)))
              rw [if_neg (by rw [wanted_none rfl rfl t43]; exact Bool.false_ne_true)]
              exact hK _ _ (hJ.val HOK 34 _ (by kernel_rfl) rfl (Below.refl _ _))
            case o8zero_35 =>
              intro LX V aX wX K hl hp hcl hf hJ hK
              have t43 := hf.in (i := 20) (d := 43) (by kernel_rfl) (hp 20 (by kernel_rfl)) (hJ.vals 20 _ rfl (hp 20 (by kernel_rfl)))
              rw [if_neg (by rw [wanted_none rfl rfl t43]; exact Bool.false_ne_true)]
              exact hK _ _ (hJ.val HOK 35 _ (by kernel_rfl) rfl (Below.refl _ _))
            case o8zero_36 =>
              intro LX V aX wX K hl hp hcl hf hJ hK
              have t43 := hf.in (i := 20) (d := 43) (by kernel_rfl) (hp 20 (by kernel_rfl)) (hJ.vals 20 _ rfl (hp 20 (by kernel_rfl)))
              rw [if_neg (by rw [wanted_none rfl rfl t43]; exact Bool.false_ne_true)]
              exact hK _ _ (hJ.val HOK 36 _ (by kernel_rfl) rfl (Below.refl _ _))
            case o8zero_37 =>
              intro LX V aX wX K hl hp hcl hf hJ hK
              have t43 := hf.in (i := 20) (d := 43) (by kernel_rfl) (hp 20 (by kernel_rfl)) (hJ.vals 20 _ rfl (hp 20 (by kernel_rfl)))
              rw [if_neg (by rw [wanted_none rfl rfl t43]; exact Bool.false_ne_true)]
              exact hK _ _ (hJ.val HOK 37 _ (by kernel_rfl) rfl (Below.refl _ _))
            case o8zero_38 =>
              intro LX V aX wX K hl hp hcl hf hJ hK
              have t43 := hf.in (i := 20) (d := 43) (by kernel_rfl) (hp 20 (by kernel_rfl)) (hJ.vals 20 _ rfl (hp 20 (by kernel_rfl)))
              rw [if_neg (by rw [wanted_none rfl rfl t43]; exact Bool.false_ne_true)]
              exact hK _ _ (hJ.val HOK 38 _ (by kernel_rfl) rfl (Below.refl _ _))
            case o8zero_39 =>
              intro LX V aX wX K hl hp hcl hf hJ hK
              have t43 := hf.in (i := 20) (d := 43) (by kernel_rfl) (hp 20 (by kernel_rfl)) (hJ.vals 20 _ rfl (hp 20 (by kernel_rfl)))
              rw [if_neg (by rw [wanted_none rfl rfl t43]; exact Bool.false_ne_true)]
              exact hK _ _ (hJ.val HOK 39 _ (by kernel_rfl) rfl (Below.refl _ _))
            case o8zero_40 =>
              intro LX V aX wX K hl hp hcl hf hJ hK
              have t62 := hf.in (i := 39) (d := 62) (by kernel_rfl) (hp 39 (by kernel_rfl)) (hJ.vals 39 _ rfl (hp 39 (by kernel_rfl)))
              rw [if_neg (by rw [wanted_none rfl rfl t62]; exact Bool.false_ne_true)]
              exact hK _ _ (hJ.val HOK 40 _ (by kernel_rfl) rfl (Below.refl _ _))
            case o8zero_41 =>
              intro LX V aX wX K hl hp hcl hf hJ hK
              have t62 := hf.in (i := 39) (d := 62) (by kernel_rfl) (hp 39 (by kernel_rfl)) (hJ.vals 39 _ rfl (hp 39 (by kernel_rfl)))
              rw [if_neg (by rw [wanted_none rfl rfl t62]; exact Bool.false_ne_true)]
              exact hK _ _ (hJ.val HOK 41 _ (by kernel_rfl) rfl (Below.refl _ _))
            case o8zero_42 =>
              intro LX V aX wX K hl hp hcl hf hJ hK
              have t62 := hf.in (i := 39) (d := 62) (by kernel_rfl) (hp 39 (by kernel_rfl)) (hJ.vals 39 _ rfl (hp 39 (by kernel_rfl)))
              rw [if_neg (by rw [wanted_none rfl rfl t62]; exact Bool.false_ne_true)]
              exact hK _ _ (hJ.val HOK 42 _ (by kernel_rfl) rfl (Below.refl _ _))
            case o8zero_43 =>
              intro LX V aX wX K hl hp hcl hf hJ hK
              have t62 := hf.in (i := 39) (d := 62) (by kernel_rfl) (hp 39 (by kernel_rfl)) (hJ.vals 39 _ rfl (hp 39 (by kernel_rfl)))
              rw [if_neg (by rw [wanted_none rfl rfl t62]; exact Bool.false_ne_true)]
              exact hK _ _ (hJ.val HOK 43 _ (by kernel_rfl) rfl (Below.refl _ _))
            case o8zero_44 =>
              intro LX V aX wX K hl hp hcl hf hJ hK
              have t62 := hf.in (i := 39) (d := 62) (by kernel_rfl) (hp 39 (by kernel_rfl)) (hJ.vals 39 _ rfl (hp 39 (by kernel_rfl)))
              rw [if_neg (by rw [wanted_none rfl rfl t62]; exact Bool.false_ne_true)]
              exact hK _ _ (hJ.val HOK 44 _ (by kernel_rfl) rfl (Below.refl _ _))
            case o8zero_45 =>
              intro LX V aX wX K hl hp hcl hf hJ hK
              have t62 := hf.in (i := 39) (d := 62) (by kernel_rfl) (hp 39 (by kernel_rfl)) (hJ.vals 39 _ rfl (hp 39 (by kernel_rfl)))
              rw [if_neg (by rw [wanted_none rfl rfl t62]; exact Bool.false_ne_true)]
              exact hK _ _ (hJ.val HOK 45 _ (by kernel_rfl) rfl (Below.refl _ _))
            case o8zero_46 =>
              intro LX V aX wX K hl hp hcl hf hJ hK
              have t62 := hf.in (i := 39) (d := 62) (by kernel_rfl) (hp 39 (by kernel_rfl)) (hJ.vals 39 _ rfl (hp 39 (by kernel_rfl)))
              rw [if_neg (by rw [wanted_none rfl rfl t62]; exact Bool.false_ne_true)]
              exact hK _ _ (hJ.val HOK 46 _ (by kernel_rfl) rfl (Below.refl _ _))
            case o8zero_47 =>
              intro LX V aX wX K hl hp hcl hf hJ hK
              have t62 := hf.in (i := 39) (d := 62) (by kernel_rfl) (hp 39 (by kernel_rfl)) (hJ.vals 39 _ rfl (hp 39 (by kernel_rfl)))
              rw [if_neg (by rw [wanted_none rfl rfl t62]; exact Bool.false_ne_true)]
              exact hK _ _ (hJ.val HOK 47 _ (by kernel_rfl) rfl (Below.refl _ _))
            case o8zero_48 =>
              intro LX V aX wX K hl hp hcl hf hJ hK
              have t62 := hf.in (i := 39) (d := 62) (by kernel_rfl) (hp 39 (by kernel_rfl)) (hJ.vals 39 _ rfl (hp 39 (by kernel_rfl)))
              rw [if_neg (by rw [wanted_none rfl rfl t62]; exact Bool.false_ne_true)]
              exact hK _ _ (hJ.val HOK 48 _ (by kernel_rfl) rfl (Below.refl _ _))
            case o8zero_49 =>
              intro LX V aX wX K hl hp hcl hf hJ hK
              have t62 := hf.in (i := 39) (d := 62) (by kernel_rfl) (hp 39 (by kernel_rfl)) (hJ.vals 39 _ rfl (hp 39 (by kernel_rfl)))
              rw [if_neg (by rw [wanted_none rfl rfl t62]; exact Bool.false_ne_true)]
              exact hK _ _ (hJ.val HOK 49 _ (by kernel_rfl) rfl (Below.refl _ _))
            case o8zero_50 =>
              intro LX V aX wX K hl hp hcl hf hJ hK
              have t43 := hf.in (i := 20) (d := 43) (by kernel_rfl) (hp 20 (by kernel_rfl)) (hJ.vals 20 _ rfl (hp 20 (by kernel_rfl)))
              rw [if_neg (by rw [wanted_none rfl rfl t43]; exact Bool.false_ne_true)]
              exact hK _ _ (hJ.val HOK 50 _ (by kernel_rfl) rfl (Below.refl _ _))
            case o8zero_51 =>
              intro LX V aX wX K hl hp hcl hf hJ hK
              have t25 := hf.in (i := 2) (d := 25) (by kernel_rfl) (hp 2 (by kernel_rfl)) (hJ.vals 2 _ rfl (hp 2 (by kernel_rfl)))
              rw [if_neg (by rw [wanted_not (b := true) rfl rfl t25]; exact Bool.false_ne_true)]
              exact hK _ _ (hJ.val HOK 51 _ (by kernel_rfl) rfl (Below.refl _ _))
            case o8zero_52 =>
              intro LX V aX wX K hl hp hcl hf hJ hK
              have t25 := hf.in (i := 2) (d := 25) (by kernel_rfl) (hp 2 (by kernel_rfl)) (hJ.vals 2 _ rfl (hp 2 (by kernel_rfl)))
              have t74 := hf.in (i := 51) (d := 74) (by kernel_rfl) (hp 51 (by kernel_rfl)) (hJ.vals 51 _ rfl (hp 51 (by kernel_rfl)))
              rw [if_pos (by rfl)]
              go_simp
              exact hK _ _ (hJ.val HOK 52 _ (by kernel_rfl) rfl (Below.refl _ _))
          intro V wZ hJ
          have hv := hJ.vals 52 _ rfl (by kernel_rfl)
          have HBY := Lib.hid hJ.below
          simp only [puts, Act.put, List.setIfInBounds_toArray, List.set_cons_zero, List.set_cons_succ]
          rw [hv]
          clear hJ HOK hv
          obtain ⟨wy, hwy⟩ : ∃ wy, wy = wZ := ⟨_, rfl⟩
          rw [← hwy] at HBY ⊢
          clear hwy
          have HTK : Hid (∀ wX, Below wy.heap.size wy wX → IsInts wX none 0 0 (S.take k)) := Lib.hid (fun wX _ => by rw [HTKG.out.1]; exact ⟨rfl, Nat.le_refl _, by unfold maxLen; omega, (fun h => absurd h (by omega)), fun _ => ⟨rfl, rfl⟩⟩)
          have HDR : Hid (∀ wX, Below wy.heap.size wy wX → IsInts wX none 0 0 (S.drop k)) := Lib.hid (fun wX _ => by rw [HTKG.out.2]; exact ⟨rfl, Nat.le_refl _, by unfold maxLen; omega, (fun h => absurd h (by omega)), fun _ => ⟨rfl, rfl⟩⟩)
          have HPC : Hid (∀ wX, Below wy.heap.size wy wX → wX.cell? ⟨pb, pf + i, none⟩ = some (.int .i64 (xn : Int))) := Lib.hid (fun wX hX => GPC.out wX (HBY.out.trans (hX.mono HBY.out.size)))
          go_wp2_with fail
          have HOK : ∀ r ∈ ([⟨0, 0, 0, some 4, [], fun V w => OwnI w wy.heap.size (V 0) ([])⟩, ⟨1, 4, 4, some 10, [], fun V w => OwnI w wy.heap.size (V 4) ([] ++ S.take k)⟩, ⟨2, 9, 9, none, [], fun V w => OwnI w wy.heap.size (V 9) ([(xn : Int)])⟩, ⟨3, 10, 10, some 14, [], fun V w => OwnI w wy.heap.size (V 10) ([] ++ S.take k ++ [(xn : Int)])⟩, ⟨4, 14, 14, some 15, [], fun V w => OwnI w wy.heap.size (V 14) ([] ++ S.take k ++ [(xn : Int)] ++ S.drop k)⟩, ⟨5, 15, 15, none, [], fun V w => OwnI w wy.heap.size (V 15) ([] ++ S.take k ++ [(xn : Int)] ++ S.drop k)⟩] : List Resr), ResOk wy r := by
            intro r hr
            simp only [List.mem_cons, List.not_mem_nil, or_false] at hr
            rcases hr with rfl | rfl | rfl | rfl | rfl | rfl
            · exact resInts_ok _
            · exact resInts_ok _
            · exact resInts_ok _
            · exact resInts_ok _
            · exact resInts_ok _
            · exact resInts_ok _
          refine wp_region_J (s := [(78, 0), (79, 1), (80, 2), (81, 3), (82, 4), (83, 5), (84, 6), (85, 7), (86, 8), (87, 9), (88, 10), (89, 11), (90, 12), (91, 13), (92, 14), (7, 15)]) (by kernel_rfl) (ResJ wy (fun iX => match iX with | 1 => some (.slice none 0 0) | 2 => some (.int .i64 0) | 3 => some (.slice none 0 0) | 5 => some (.slice (some ⟨pb, pf, none⟩) m pc) | 6 => some (.int .i64 (i : Int)) | 7 => some (.pointer (some ⟨pb, pf + i, none⟩)) | 8 => some (.int .i64 (xn : Int)) | 11 => some (.slice none 0 0) | 12 => some (.int .i64 0) | 13 => some (.slice none 0 0) | _ => none) [⟨0, 0, 0, some 4, [], fun V w => OwnI w wy.heap.size (V 0) ([])⟩, ⟨1, 4, 4, some 10, [], fun V w => OwnI w wy.heap.size (V 4) ([] ++ S.take k)⟩, ⟨2, 9, 9, none, [], fun V w => OwnI w wy.heap.size (V 9) ([(xn : Int)])⟩, ⟨3, 10, 10, some 14, [], fun V w => OwnI w wy.heap.size (V 10) ([] ++ S.take k ++ [(xn : Int)])⟩, ⟨4, 14, 14, some 15, [], fun V w => OwnI w wy.heap.size (V 14) ([] ++ S.take k ++ [(xn : Int)] ++ S.drop k)⟩, ⟨5, 15, 15, none, [], fun V w => OwnI w wy.heap.size (V 15) ([] ++ S.take k ++ [(xn : Int)] ++ S.drop k)⟩]) (by kernel_rfl) (by kernel_rfl) (by kernel_rfl) (by kernel_rfl) (fun _ => undef) ?start10z ?step10z ?done10z
          case start10z => exact ResJ.start ((Below.refl _ _).drew) (by kernel_rfl)
          case step10z =>
            refine ⟨?o10z_0, ?o10z_1, ?o10z_2, ?o10z_3, ?o10z_4, ?o10z_5, ?o10z_6, ?o10z_7, ?o10z_8, ?o10z_9, ?o10z_10, ?o10z_11, ?o10z_12, ?o10z_13, ?o10z_14, ?o10z_15, trivial⟩
            case o10z_0 =>
              intro LX V aX wX K hl hp hcl hf hJ hK
              rw [if_pos (by rfl)]
              go_simp
              exact hK _ _ (hJ.step HOK 0 _ hl (by kernel_rfl) trivial none (World.grownBy_alloc _ _ _) (.inl rfl) (new_one (by kernel_rfl) ⟨0, 0, 0, some 4, [], fun V w => OwnI w wy.heap.size (V 0) ([])⟩ (List.mem_of_getElem? (i := 0) rfl) rfl ⟨(fun j hj => by rcases hj with rfl | hj; exact .inl rfl; cases hj), by (try simp only); rw [upd_at]; exact OwnI.lit wX _ hJ.below.size [] (by simp), fun g hg => .inl (by rw [upd_at] at hg; cases hg; exact Nat.le_refl _)⟩))
            case o10z_1 =>
              intro LX V aX wX K hl hp hcl hf hJ hK
              have t7 := hf.still (t := 7) (v := .slice none 0 0) 15 (by kernel_rfl) (hcl.no 15 (by kernel_rfl) hl) rfl
              rw [if_pos (by rfl)]
              go_simp
              exact hK _ _ (hJ.val HOK 1 _ hl (by kernel_rfl) (by kernel_rfl) rfl (Below.refl _ _))
            case o10z_2 =>
              intro LX V aX wX K hl hp hcl hf hJ hK
              have t9 : aX.tmps[9]? = some (.int .i64 0) := hf.old (by kernel_rfl) rfl
              rw [if_pos (by rfl)]
              go_simp
              exact hK _ _ (hJ.val HOK 2 _ hl (by kernel_rfl) (by kernel_rfl) rfl (Below.refl _ _))
            case o10z_3 =>
              intro LX V aX wX K hl hp hcl hf hJ hK
              have t79 := hf.in (i := 1) (d := 79) (by kernel_rfl) (hp 1 (by kernel_rfl)) (hJ.vals 1 _ rfl (hp 1 (by kernel_rfl)))
              have t80 := hf.in (i := 2) (d := 80) (by kernel_rfl) (hp 2 (by kernel_rfl)) (hJ.vals 2 _ rfl (hp 2 (by kernel_rfl)))
              rw [if_pos (by rfl)]
              go_simp
              exact hK _ _ (hJ.val HOK 3 _ hl (by kernel_rfl) (by kernel_rfl) rfl (Below.refl _ _))
            case o10z_4 =>
              intro LX V aX wX K hl hp hcl hf hJ hK
              have t78 := hf.in (i := 0) (d := 78) (by kernel_rfl) (hp 0 (by kernel_rfl)) rfl
              have t81 := hf.in (i := 3) (d := 81) (by kernel_rfl) (hp 3 (by kernel_rfl)) (hJ.vals 3 _ rfl (hp 3 (by kernel_rfl)))
              rw [if_pos (by rfl)]
              have hq0 := hJ.at ⟨0, 0, 0, some 4, [], fun V w => OwnI w wy.heap.size (V 0) ([])⟩ (List.mem_of_getElem? (i := 0) rfl) (lor (hp 0 (by kernel_rfl))) hl
              refine opwp_append_intsF _ _ rfl wy.heap.size (V 0) ([]) (eval_tmp t78) hq0 _ _ _ (S.take k) (eval_tmp t81) (HTK.out _ hJ.below) (HLN1.out) hJ.below.size ?_
              intro v' w' hown2 hgr hfr
              exact hK _ _ (hJ.step HOK 4 v' hl (by kernel_rfl) trivial (V 0).ownBlock hgr (.inr ⟨⟨0, 0, 0, some 4, [], fun V w => OwnI w wy.heap.size (V 0) ([])⟩, List.mem_of_getElem? (i := 0) rfl, rfl, lor (hp 0 (by kernel_rfl)), by (try simp only); exact OwnI.any hq0⟩) (new_one (by kernel_rfl) ⟨1, 4, 4, some 10, [], fun V w => OwnI w wy.heap.size (V 4) ([] ++ S.take k)⟩ (List.mem_of_getElem? (i := 1) rfl) rfl ⟨(fun j hj => by rcases hj with rfl | hj; exact .inl rfl; cases hj), by (try simp only); rw [upd_at]; exact hown2, fun g hg => by rw [upd_at, OwnI.any hown2] at hg; exact hfr g hg⟩))
            case o10z_5 =>
              intro LX V aX wX K hl hp hcl hf hJ hK
              have t1 : aX.tmps[1]? = some (.slice (some ⟨pb, pf, none⟩) m pc) := hf.old (by kernel_rfl) rfl
              rw [if_pos (by rfl)]
              go_simp
              exact hK _ _ (hJ.val HOK 5 _ hl (by kernel_rfl) (by kernel_rfl) rfl (Below.refl _ _))
            case o10z_6 =>
              intro LX V aX wX K hl hp hcl hf hJ hK
              have t8 : aX.tmps[8]? = some (.int .i64 (i : Int)) := hf.old (by kernel_rfl) rfl
              rw [if_pos (by rfl)]
              go_simp
              exact hK _ _ (hJ.val HOK 6 _ hl (by kernel_rfl) (by kernel_rfl) rfl (Below.refl _ _))
            case o10z_7 =>
              intro LX V aX wX K hl hp hcl hf hJ hK
              have t83 := hf.in (i := 5) (d := 83) (by kernel_rfl) (hp 5 (by kernel_rfl)) (hJ.vals 5 _ rfl (hp 5 (by kernel_rfl)))
              have t84 := hf.in (i := 6) (d := 84) (by kernel_rfl) (hp 6 (by kernel_rfl)) (hJ.vals 6 _ rfl (hp 6 (by kernel_rfl)))
              obtain ⟨u2, u3⟩ := HPI.out
              rw [if_pos (by rfl)]
              go_simp
              exact hK _ _ (hJ.val HOK 7 _ hl (by kernel_rfl) (by kernel_rfl) rfl (Below.refl _ _))
            case o10z_8 =>
              intro LX V aX wX K hl hp hcl hf hJ hK
              have t85 := hf.in (i := 7) (d := 85) (by kernel_rfl) (hp 7 (by kernel_rfl)) (hJ.vals 7 _ rfl (hp 7 (by kernel_rfl)))
              have c0 := HPC.out wX hJ.below
              rw [if_pos (by rfl)]
              go_simp
              exact hK _ _ (hJ.val HOK 8 _ hl (by kernel_rfl) (by kernel_rfl) rfl (Below.refl _ _))
            case o10z_9 =>
              intro LX V aX wX K hl hp hcl hf hJ hK
              have t86 := hf.in (i := 8) (d := 86) (by kernel_rfl) (hp 8 (by kernel_rfl)) (hJ.vals 8 _ rfl (hp 8 (by kernel_rfl)))
              rw [if_pos (by rfl)]
              go_simp
              exact hK _ _ (hJ.step HOK 9 _ hl (by kernel_rfl) trivial none (World.grownBy_alloc _ _ _) (.inl rfl) (new_one (by kernel_rfl) ⟨2, 9, 9, none, [], fun V w => OwnI w wy.heap.size (V 9) ([(xn : Int)])⟩ (List.mem_of_getElem? (i := 2) rfl) rfl ⟨(fun j hj => by rcases hj with rfl | hj; exact .inl rfl; cases hj), by (try simp only); rw [upd_at]; exact OwnI.lit wX _ hJ.below.size [(xn : Int)] (by simp), fun g hg => .inl (by rw [upd_at] at hg; cases hg; exact Nat.le_refl _)⟩))
            case o10z_10 =>
              intro LX V aX wX K hl hp hcl hf hJ hK
              have t82 := hf.in (i := 4) (d := 82) (by kernel_rfl) (hp 4 (by kernel_rfl)) rfl
              have t87 := hf.in (i := 9) (d := 87) (by kernel_rfl) (hp 9 (by kernel_rfl)) rfl
              rw [if_pos (by rfl)]
              have hq9 := hJ.at ⟨2, 9, 9, none, [], fun V w => OwnI w wy.heap.size (V 9) ([(xn : Int)])⟩ (List.mem_of_getElem? (i := 2) rfl) (lor (hp 9 (by kernel_rfl))) trivial
              obtain ⟨a87, c87, hv87, hpts⟩ := OwnI.ints hq9
              have hq0 := hJ.at ⟨1, 4, 4, some 10, [], fun V w => OwnI w wy.heap.size (V 4) ([] ++ S.take k)⟩ (List.mem_of_getElem? (i := 1) rfl) (lor (hp 4 (by kernel_rfl))) hl
              refine opwp_append_intsF _ _ rfl wy.heap.size (V 4) ([] ++ S.take k) (eval_tmp t82) hq0 _ _ _ ([(xn : Int)]) (by rw [eval_tmp t87]; exact hv87) (hpts) (HLN2.out) hJ.below.size ?_
              intro v' w' hown2 hgr hfr
              exact hK _ _ (hJ.step HOK 10 v' hl (by kernel_rfl) trivial (V 4).ownBlock hgr (.inr ⟨⟨1, 4, 4, some 10, [], fun V w => OwnI w wy.heap.size (V 4) ([] ++ S.take k)⟩, List.mem_of_getElem? (i := 1) rfl, rfl, lor (hp 4 (by kernel_rfl)), by (try simp only); exact OwnI.any hq0⟩) (new_one (by kernel_rfl) ⟨3, 10, 10, some 14, [], fun V w => OwnI w wy.heap.size (V 10) ([] ++ S.take k ++ [(xn : Int)])⟩ (List.mem_of_getElem? (i := 3) rfl) rfl ⟨(fun j hj => by rcases hj with rfl | hj; exact .inl rfl; cases hj), by (try simp only); rw [upd_at]; exact hown2, fun g hg => by rw [upd_at, OwnI.any hown2] at hg; exact hfr g hg⟩))
            case o10z_11 =>
              intro LX V aX wX K hl hp hcl hf hJ hK
              have t7 := hf.still (t := 7) (v := .slice none 0 0) 15 (by kernel_rfl) (hcl.no 15 (by kernel_rfl) hl) rfl
              rw [if_pos (by rfl)]
              go_simp
              exact hK _ _ (hJ.val HOK 11 _ hl (by kernel_rfl) (by kernel_rfl) rfl (Below.refl _ _))
            case o10z_12 =>
              intro LX V aX wX K hl hp hcl hf hJ hK
              have t9 : aX.tmps[9]? = some (.int .i64 0) := hf.old (by kernel_rfl) rfl
              rw [if_pos (by rfl)]
              go_simp
              exact hK _ _ (hJ.val HOK 12 _ hl (by kernel_rfl) (by kernel_rfl) rfl (Below.refl _ _))
            case o10z_13 =>
              intro LX V aX wX K hl hp hcl hf hJ hK
              have t89 := hf.in (i := 11) (d := 89) (by kernel_rfl) (hp 11 (by kernel_rfl)) (hJ.vals 11 _ rfl (hp 11 (by kernel_rfl)))
              have t90 := hf.in (i := 12) (d := 90) (by kernel_rfl) (hp 12 (by kernel_rfl)) (hJ.vals 12 _ rfl (hp 12 (by kernel_rfl)))
              rw [if_pos (by rfl)]
              go_simp
              exact hK _ _ (hJ.val HOK 13 _ hl (by kernel_rfl) (by kernel_rfl) rfl (Below.refl _ _))
            case o10z_14 =>
              intro LX V aX wX K hl hp hcl hf hJ hK
              have t88 := hf.in (i := 10) (d := 88) (by kernel_rfl) (hp 10 (by kernel_rfl)) rfl
              have t91 := hf.in (i := 13) (d := 91) (by kernel_rfl) (hp 13 (by kernel_rfl)) (hJ.vals 13 _ rfl (hp 13 (by kernel_rfl)))
              rw [if_pos (by rfl)]
              have hq0 := hJ.at ⟨3, 10, 10, some 14, [], fun V w => OwnI w wy.heap.size (V 10) ([] ++ S.take k ++ [(xn : Int)])⟩ (List.mem_of_getElem? (i := 3) rfl) (lor (hp 10 (by kernel_rfl))) hl
              refine opwp_append_intsF _ _ rfl wy.heap.size (V 10) ([] ++ S.take k ++ [(xn : Int)]) (eval_tmp t88) hq0 _ _ _ (S.drop k) (eval_tmp t91) (HDR.out _ hJ.below) (HLN3.out) hJ.below.size ?_
              intro v' w' hown2 hgr hfr
              exact hK _ _ (hJ.step HOK 14 v' hl (by kernel_rfl) trivial (V 10).ownBlock hgr (.inr ⟨⟨3, 10, 10, some 14, [], fun V w => OwnI w wy.heap.size (V 10) ([] ++ S.take k ++ [(xn : Int)])⟩, List.mem_of_getElem? (i := 3) rfl, rfl, lor (hp 10 (by kernel_rfl)), by (try simp only); exact OwnI.any hq0⟩) (new_one (by kernel_rfl) ⟨4, 14, 14, some 15, [], fun V w => OwnI w wy.heap.size (V 14) ([] ++ S.take k ++ [(xn : Int)] ++ S.drop k)⟩ (List.mem_of_getElem? (i := 4) rfl) rfl ⟨(fun j hj => by rcases hj with rfl | hj; exact .inl rfl; cases hj), by (try simp only); rw [upd_at]; exact hown2, fun g hg => by rw [upd_at, OwnI.any hown2] at hg; exact hfr g hg⟩))
            case o10z_15 =>
              intro LX V aX wX K hl hp hcl hf hJ hK
              have t92 := hf.in (i := 14) (d := 92) (by kernel_rfl) (hp 14 (by kernel_rfl)) rfl
              rw [if_pos (by rfl)]
              have hq0 := hJ.at ⟨4, 14, 14, some 15, [], fun V w => OwnI w wy.heap.size (V 14) ([] ++ S.take k ++ [(xn : Int)] ++ S.drop k)⟩ (List.mem_of_getElem? (i := 4) rfl) (lor (hp 14 (by kernel_rfl))) hl
              go_simp
              exact hK _ _ (hJ.step HOK 15 _ hl (by kernel_rfl) trivial (ownAny (V 14)) ⟨rfl, rfl, rfl, Nat.le_refl _, fun _ _ _ => rfl⟩ (.inr ⟨⟨4, 14, 14, some 15, [], fun V w => OwnI w wy.heap.size (V 14) ([] ++ S.take k ++ [(xn : Int)] ++ S.drop k)⟩, List.mem_of_getElem? (i := 4) rfl, rfl, lor (hp 14 (by kernel_rfl)), rfl⟩) (new_one (by kernel_rfl) ⟨5, 15, 15, none, [], fun V w => OwnI w wy.heap.size (V 15) ([] ++ S.take k ++ [(xn : Int)] ++ S.drop k)⟩ (List.mem_of_getElem? (i := 5) rfl) rfl ⟨(fun j hj => by rcases hj with rfl | hj; exact .inl rfl; cases hj), by (try simp only); rw [upd_at]; exact hq0, fun g hg => .inr (by rw [upd_at] at hg; exact hg.symm ▸ rfl)⟩))
          intro V wZ hJ
          have hq := hJ.at ⟨5, 15, 15, none, [], fun V w => OwnI w wy.heap.size (V 15) ([] ++ S.take k ++ [(xn : Int)] ++ S.drop k)⟩ (List.mem_of_getElem? (i := 5) rfl) (by kernel_rfl) trivial
          have HZ := Lib.hid (And.intro hq hJ.below)
          simp only [puts, Act.put, List.setIfInBounds_toArray, List.set_cons_zero, List.set_cons_succ]
          clear hJ hq HOK
          go_wp2_with fail
          go_roundw
          case rel =>
            have hb9 := hbl.out.trans (HBY.out.mono hbl.out.size)
            exact ⟨i + 1, by omega, by go_num, Lib.hid ⟨_, HZ.out.1.base hb9.size, fun e => absurd e (by simp), HRES.out.1, HRES.out.2⟩, Lib.hid (hb9.trans (HZ.out.2.mono hb9.size))⟩
          case measure => simp [intOf]; omega
      · obtain ⟨ax, co, hvx, hix⟩ := hown.ints
        obtain ⟨no, hno⟩ : ∃ n, n = S.length := ⟨_, rfl⟩
        rw [← hno] at hvx hix
        have hn1 : 1 ≤ no := by rw [hno]; cases S with | nil => exact absurd rfl hS0 | cons _ _ => simp
        have hn2 : no ≤ 3000 := by omega
        obtain ⟨bo, oo, hax, _⟩ := hix.at (i := 0) (by omega)
        subst hax
        subst hvx
        have hnco := hix.2.1
        have hcom : co ≤ 9223372036854775807 := hix.2.2.1
        obtain ⟨bb, off, hao, _⟩ := HX.out.at (i := xn) (by omega)
        subst hao
        obtain ⟨bx, hbx⟩ : ∃ b, b = L.getD xn bx0 := ⟨_, rfl⟩
        obtain ⟨w1, hw1⟩ : ∃ w1, w1 = wr := ⟨_, rfl⟩
        have HIX : Hid (IsInts w1 (some ⟨bo, oo, none⟩) no co S) := Lib.hid (by rw [hw1]; exact hix)
        have HX1 : Hid (IsX w1 (some ⟨bb, off, none⟩) n cap L) := Lib.hid (by rw [hw1]; exact HX.out.later hbl.out (Nat.le_refl _))
        have HB1 : Hid (Below w.heap.size w w1) := Lib.hid (by rw [hw1]; exact hbl.out)
        have GPC1 : Hid (∀ wX, Below w1.heap.size w1 wX → wX.cell? ⟨pb, pf + i, none⟩ = some (.int .i64 (xn : Int))) := Lib.hid (by rw [hw1]; exact GPC.out)
        have HSR : Hid (∀ x ∈ S, 0 ≤ x ∧ x < (n : Int)) := Lib.hid (fun x hx => HRG.out x (List.mem_of_mem_take (hpm.subset hx)))
        have HNO := Lib.hid hno
        have HXL := Lib.hid hxl
        have HBX := Lib.hid hbx
        clear hown hnil hpm hsrt hSl hS0 hxS hxn hpat hip hxl hix hno hbx
        go_wp2_with fail
        go_loopw [9] (fun kv wr2 => ∃ k : Nat, k ≤ no ∧ kv = .int .i64 k ∧ Hid (∀ y ∈ S.drop k, ltI L ac (xn : Int) y) ∧ Hid (Below w1.heap.size w1 wr2)) (fun kv _ => (intOf kv).toNat)
        case atStart => exact ⟨no, Nat.le_refl _, rfl, Lib.hid (by rw [HNO.out, List.drop_length]; intro y hy; cases hy), Lib.hid (by rw [hw1]; exact Below.refl _ _)⟩
        case round =>
          clear hw1 hbl GPC
          obtain ⟨k, hkn, rfl, hup, hbk⟩ := hrel
          have hkc : k ≤ co := by omega
          have hkc5 : (k : Int) ≤ (co : Int) := by omega
          have hk0 : (0 : Int) ≤ (k : Int) := by omega
          have hwk : IntKind.i64.wrap (k : Int) = (k : Int) := IntWalk.i64_in _ (by omega)
          have HK5 : Hid (k ≤ co ∧ (k : Int) ≤ (co : Int) ∧ (0 : Int) ≤ (k : Int) ∧ IntKind.i64.wrap (k : Int) = (k : Int) ∧ k ≤ no ∧ (k : Int) ≤ (no : Int)) := Lib.hid ⟨hkc, hkc5, hk0, hwk, hkn, by omega⟩
          have HKN := Lib.hid hkn
          clear hkc hkc5 hk0 hwk
          by_cases hkp : 0 < k
          · obtain ⟨k1, hk1⟩ : ∃ k1 : Nat, k = k1 + 1 := ⟨k - 1, by omega⟩
            obtain ⟨yn, hyn, hyl⟩ : ∃ yn : Nat, S.getD k1 0 = (yn : Int) ∧ yn < n := by
              obtain ⟨h1, h2⟩ := HSR.out _ (getD_mem (p := S) (i := k1) (by rw [← HNO.out]; omega))
              exact ⟨(S.getD k1 0).toNat, by omega, by omega⟩
            obtain ⟨by_, hby⟩ : ∃ b, b = L.getD yn bx0 := ⟨_, rfl⟩
            have HNUM : Hid (((0 : Int) < (k : Int) ∧ 0 < k) ∧ (i : Int) < (m : Int) ∧ (0 : Int) ≤ (i : Int) ∧ (xn : Int) < (n : Int) ∧ (0 : Int) ≤ (xn : Int) ∧ IntKind.i64.wrap ((k : Int) - 1) = (k1 : Int) ∧ (k1 : Int) < (no : Int) ∧ (0 : Int) ≤ (k1 : Int) ∧ (yn : Int) < (n : Int) ∧ (0 : Int) ≤ (yn : Int)) := Lib.hid ⟨⟨by omega, by omega⟩, hi5, hi0, by have := HXL.out; omega, by omega, by rw [IntWalk.i64_in _ (by omega)]; omega, by omega, by omega, by omega, by omega⟩
            have HCE : Hid (∀ wX, Below wr.heap.size wr wX → (wX.cell? ⟨pb, pf + i, none⟩ = some (.int .i64 (xn : Int)) ∧ wX.cell? ⟨bo, oo + k1, none⟩ = some (.int .i64 (yn : Int))) ∧ (wX.cell? ⟨bb, off + xn * 4, none⟩ = some (.int .i64 bx.1.x) ∧ wX.cell? ⟨bb, off + xn * 4 + 1, none⟩ = some (.int .i64 bx.1.y) ∧ wX.cell? ⟨bb, off + xn * 4 + 2, none⟩ = some (.int .i64 bx.2.x) ∧ wX.cell? ⟨bb, off + xn * 4 + 3, none⟩ = some (.int .i64 bx.2.y)) ∧ (wX.cell? ⟨bb, off + yn * 4, none⟩ = some (.int .i64 by_.1.x) ∧ wX.cell? ⟨bb, off + yn * 4 + 1, none⟩ = some (.int .i64 by_.1.y) ∧ wX.cell? ⟨bb, off + yn * 4 + 2, none⟩ = some (.int .i64 by_.2.x) ∧ wX.cell? ⟨bb, off + yn * 4 + 3, none⟩ = some (.int .i64 by_.2.y))) := Lib.hid (fun wX hX => by
              have hb9 := hbk.out.trans (hX.mono hbk.out.size)
              have hq := HX1.out.later hb9 (Nat.le_refl _)
              have hs := HIX.out.later hb9 (Nat.le_refl _)
              obtain ⟨b1, o1, e1, d1⟩ := hs.at (i := k1) (by omega)
              cases e1
              obtain ⟨b2, o2, e2, x0, x1, x2, x3⟩ := hq.at (i := xn) HXL.out
              cases e2
              obtain ⟨b3, o3, e3, y0, y1, y2, y3⟩ := hq.at (i := yn) hyl
              cases e3
              rw [hyn] at d1
              rw [← HBX.out] at x0 x1 x2 x3
              rw [← hby] at y0 y1 y2 y3
              exact ⟨⟨GPC1.out wX hb9, d1⟩, ⟨x0, x1, x2, x3⟩, ⟨y0, y1, y2, y3⟩⟩)
            obtain ⟨r1, hr1⟩ : ∃ r, r = decide (keyB ac bx < keyB ac by_) := ⟨_, rfl⟩
            obtain ⟨r2, hr2⟩ : ∃ r, r = decide (keyB ac by_ < keyB ac bx) := ⟨_, rfl⟩
            have hix1 : InX bx := by rw [HBX.out]; exact HIN.out.get (by rw [HLN.out]; exact HXL.out)
            have hix2 : InX by_ := by rw [hby]; exact HIN.out.get (by rw [HLN.out]; exact hyl)
            have HA1 : Hid (∀ wX, Below wr.heap.size wr wX → Calls Try.prog 50 #[.agg #[.int .i64 bx.1.x, .int .i64 bx.1.y, .int .i64 bx.2.x, .int .i64 bx.2.y], .agg #[.int .i64 by_.1.x, .int .i64 by_.1.y, .int .i64 by_.2.x, .int .i64 by_.2.y], .int .i64 (lev : Int)] wX fun e w' => e = .returned (.bool r1) ∧ Below wX.heap.size wX w') := Lib.hid (fun wX _ => by
              have := RAhead_any bx by_ lev ac wX hix1 hix2 HAC.out (by omega)
              unfold boxV at this
              rw [← hr1] at this
              exact this)
            have HA2 : Hid (∀ wX, Below wr.heap.size wr wX → Calls Try.prog 50 #[.agg #[.int .i64 by_.1.x, .int .i64 by_.1.y, .int .i64 by_.2.x, .int .i64 by_.2.y], .agg #[.int .i64 bx.1.x, .int .i64 bx.1.y, .int .i64 bx.2.x, .int .i64 bx.2.y], .int .i64 (lev : Int)] wX fun e w' => e = .returned (.bool r2) ∧ Below wX.heap.size wX w') := Lib.hid (fun wX _ => by
              have := RAhead_any by_ bx lev ac wX hix2 hix1 HAC.out (by omega)
              unfold boxV at this
              rw [← hr2] at this
              exact this)
            have HLT : Hid ((r1 || (!r2 && decide ((xn : Int) < (yn : Int)))) = true ↔ ltI L ac (xn : Int) (S.getD k1 0)) := Lib.hid (by
              rw [hyn, ← ahead_lt, hr1, hr2, HBX.out, hby]
              unfold bxI
              rw [Int.toNat_natCast, Int.toNat_natCast])
            have HDRP : Hid (ltI L ac (xn : Int) (S.getD k1 0) → ∀ y ∈ S.drop k1, ltI L ac (xn : Int) y) := Lib.hid (fun h => drop_step (by rw [← HNO.out]; omega) (by rw [← hk1]; exact hup.out) h)
            have HRES : Hid (¬ ltI L ac (xn : Int) (S.getD k1 0) → ([] ++ S.take k ++ [(xn : Int)] ++ S.drop k).Perm (p.take (i + 1)) ∧ ([] ++ S.take k ++ [(xn : Int)] ++ S.drop k).Pairwise (ltI L ac)) := Lib.hid (fun h => HSTEP.out k (by rw [← HNO.out]; exact hkn) hup.out (.inr (by rw [show k - 1 = k1 by omega]; exact h)))
            have HK1 := Lib.hid (And.intro hk1 hkn)
            have HWK : Hid (IntKind.i64.wrap ((k : Int) - 1) = (k1 : Int)) := Lib.hid HNUM.out.2.2.2.2.2.1
            have hkp5 : (0 : Int) < (k : Int) := by omega
            clear hr1 hr2 hix1 hix2 hby hyn hyl hk1 hkn hkp hup
            cases r1
            · cases r2
              · by_cases h3 : (xn : Int) < (yn : Int)
                · have HR3 := Lib.hid h3
                  clear h3
                  go_wp2_with fail
                  have HOK : ∀ f ∈ ([] : List Fct), FctOk f := by
                    intro f hf; cases hf
                  refine wp_region_J (s := [(23, 0), (24, 1), (25, 2), (26, 3), (27, 4), (28, 5), (29, 6), (30, 7), (31, 8), (32, 9), (33, 10), (34, 11), (35, 12), (36, 13), (37, 14), (38, 15), (39, 16), (40, 17), (41, 18), (42, 19), (43, 20), (44, 21), (45, 22), (46, 23), (47, 24), (48, 25), (49, 26), (50, 27), (51, 28), (52, 29), (53, 30), (54, 31), (55, 32), (56, 33), (57, 34), (58, 35), (59, 36), (60, 37), (61, 38), (62, 39), (63, 40), (64, 41), (65, 42), (66, 43), (67, 44), (68, 45), (69, 46), (70, 47), (71, 48), (72, 49), (73, 50), (74, 51), (75, 52)]) (by kernel_rfl) (GrowJ wr (fun iX => match iX with | 0 => some (.int .i64 (k : Int)) | 1 => some (.bool true) | 2 => some (.bool true) | 3 => some (.slice (some ⟨bb, off, none⟩) n cap) | 4 => some (.slice (some ⟨pb, pf, none⟩) m pc) | 5 => some (.int .i64 (i : Int)) | 6 => some (.pointer (some ⟨pb, pf + i, none⟩)) | 7 => some (.int .i64 (xn : Int)) | 8 => some (.pointer (some ⟨bb, off + xn * 4, none⟩)) | 9 => some (.agg #[.int .i64 bx.1.x, .int .i64 bx.1.y, .int .i64 bx.2.x, .int .i64 bx.2.y]) | 10 => some (.slice (some ⟨bb, off, none⟩) n cap) | 11 => some (.slice (some ⟨bo, oo, none⟩) no co) | 12 => some (.int .i64 (k : Int)) | 13 => some (.int .i64 (k1 : Int)) | 14 => some (.pointer (some ⟨bo, oo + k1, none⟩)) | 15 => some (.int .i64 (yn : Int)) | 16 => some (.pointer (some ⟨bb, off + yn * 4, none⟩)) | 17 => some (.agg #[.int .i64 by_.1.x, .int .i64 by_.1.y, .int .i64 by_.2.x, .int .i64 by_.2.y]) | 18 => some (.int .i64 (lev : Int)) | 19 => some (.bool false) | 20 => some (.bool false) | 21 => some (.slice (some ⟨bb, off, none⟩) n cap) | 22 => some (.slice (some ⟨bo, oo, none⟩) no co) | 23 => some (.int .i64 (k : Int)) | 24 => some (.int .i64 (k1 : Int)) | 25 => some (.pointer (some ⟨bo, oo + k1, none⟩)) | 26 => some (.int .i64 (yn : Int)) | 27 => some (.pointer (some ⟨bb, off + yn * 4, none⟩)) | 28 => some (.agg #[.int .i64 by_.1.x, .int .i64 by_.1.y, .int .i64 by_.2.x, .int .i64 by_.2.y]) | 29 => some (.slice (some ⟨bb, off, none⟩) n cap) | 30 => some (.slice (some ⟨pb, pf, none⟩) m pc) | 31 => some (.int .i64 (i : Int)) | 32 => some (.pointer (some ⟨pb, pf + i, none⟩)) | 33 => some (.int .i64 (xn : Int)) | 34 => some (.pointer (some ⟨bb, off + xn * 4, none⟩)) | 35 => some (.agg #[.int .i64 bx.1.x, .int .i64 bx.1.y, .int .i64 bx.2.x, .int .i64 bx.2.y]) | 36 => some (.int .i64 (lev : Int)) | 37 => some (.bool false) | 38 => some (.bool true) | 39 => some (.bool true) | 40 => some (.slice (some ⟨pb, pf, none⟩) m pc) | 41 => some (.int .i64 (i : Int)) | 42 => some (.pointer (some ⟨pb, pf + i, none⟩)) | 43 => some (.int .i64 (xn : Int)) | 44 => some (.slice (some ⟨bo, oo, none⟩) no co) | 45 => some (.int .i64 (k : Int)) | 46 => some (.int .i64 (k1 : Int)) | 47 => some (.pointer (some ⟨bo, oo + k1, none⟩)) | 48 => some (.int .i64 (yn : Int)) | 49 => some (.bool true) | 50 => some (.bool true) | 51 => some (.bool true) | 52 => some (.bool true) | _ => none) []) (by kernel_rfl) (by kernel_rfl) (by kernel_rfl) (by kernel_rfl) (fun _ => undef) ?start8lt ?step8lt ?done8lt
                  case start8lt => exact GrowJ.start ((Below.refl _ _).drew)
                  case step8lt =>
                    refine ⟨?o8lt_0, ?o8lt_1, ?o8lt_2, ?o8lt_3, ?o8lt_4, ?o8lt_5, ?o8lt_6, ?o8lt_7, ?o8lt_8, ?o8lt_9, ?o8lt_10, ?o8lt_11, ?o8lt_12, ?o8lt_13, ?o8lt_14, ?o8lt_15, ?o8lt_16, ?o8lt_17, ?o8lt_18, ?o8lt_19, ?o8lt_20, ?o8lt_21, ?o8lt_22, ?o8lt_23, ?o8lt_24, ?o8lt_25, ?o8lt_26, ?o8lt_27, ?o8lt_28, ?o8lt_29, ?o8lt_30, ?o8lt_31, ?o8lt_32, ?o8lt_33, ?o8lt_34, ?o8lt_35, ?o8lt_36, ?o8lt_37, ?o8lt_38, ?o8lt_39, ?o8lt_40, ?o8lt_41, ?o8lt_42, ?o8lt_43, ?o8lt_44, ?o8lt_45, ?o8lt_46, ?o8lt_47, ?o8lt_48, ?o8lt_49, ?o8lt_50, ?o8lt_51, ?o8lt_52, trivial⟩
                    case o8lt_0 =>
                      intro LX V aX wX K hl hp hcl hf hJ hK
                      have t9 : aX.tmps[9]? = some (.int .i64 (k : Int)) := hf.old (by kernel_rfl) rfl
                      rw [if_pos (by rfl)]
                      go_simp
                      exact hK _ _ (hJ.val HOK 0 _ (by kernel_rfl) rfl (Below.refl _ _))
                    case o8lt_1 =>
                      intro LX V aX wX K hl hp hcl hf hJ hK
                      have t23 := hf.in (i := 0) (d := 23) (by kernel_rfl) (hp 0 (by kernel_rfl)) (hJ.vals 0 _ rfl (hp 0 (by kernel_rfl)))
                      obtain ⟨⟨u1, u0⟩, u2, u3, u4, u5, u6, u7, u8, u9, u10⟩ := HNUM.out
                      rw [if_pos (by rfl)]
                      go_simp
                      exact hK _ _ (hJ.val HOK 1 _ (by kernel_rfl) rfl (Below.refl _ _))
                    case o8lt_2 =>
                      intro LX V aX wX K hl hp hcl hf hJ hK
                      have t24 := hf.in (i := 1) (d := 24) (by kernel_rfl) (hp 1 (by kernel_rfl)) (hJ.vals 1 _ rfl (hp 1 (by kernel_rfl)))
                      rw [if_pos (by rfl)]
                      go_simp
                      exact hK _ _ (hJ.val HOK 2 _ (by kernel_rfl) rfl (Below.refl _ _))
                    case o8lt_3 =>
                      intro LX V aX wX K hl hp hcl hf hJ hK
                      have t0 : aX.tmps[0]? = some (.slice (some ⟨bb, off, none⟩) n cap) := hf.old (by kernel_rfl) rfl
                      have t25 := hf.in (i := 2) (d := 25) (by kernel_rfl) (hp 2 (by kernel_rfl)) (hJ.vals 2 _ rfl (hp 2 (by kernel_rfl)))
                      rw [if_pos (wanted_of rfl rfl t25)]
                      go_simp
                      exact hK _ _ (hJ.val HOK 3 _ (by kernel_rfl) rfl (Below.refl _ _))
                    case o8lt_4 =>
                      intro LX V aX wX K hl hp hcl hf hJ hK
                      have t1 : aX.tmps[1]? = some (.slice (some ⟨pb, pf, none⟩) m pc) := hf.old (by kernel_rfl) rfl
                      have t25 := hf.in (i := 2) (d := 25) (by kernel_rfl) (hp 2 (by kernel_rfl)) (hJ.vals 2 _ rfl (hp 2 (by kernel_rfl)))
                      rw [if_pos (wanted_of rfl rfl t25)]
                      go_simp
                      exact hK _ _ (hJ.val HOK 4 _ (by kernel_rfl) rfl (Below.refl _ _))
                    case o8lt_5 =>
                      intro LX V aX wX K hl hp hcl hf hJ hK
                      have t8 : aX.tmps[8]? = some (.int .i64 (i : Int)) := hf.old (by kernel_rfl) rfl
                      have t25 := hf.in (i := 2) (d := 25) (by kernel_rfl) (hp 2 (by kernel_rfl)) (hJ.vals 2 _ rfl (hp 2 (by kernel_rfl)))
                      rw [if_pos (wanted_of rfl rfl t25)]
                      go_simp
                      exact hK _ _ (hJ.val HOK 5 _ (by kernel_rfl) rfl (Below.refl _ _))
                    case o8lt_6 =>
                      intro LX V aX wX K hl hp hcl hf hJ hK
                      have t27 := hf.in (i := 4) (d := 27) (by kernel_rfl) (hp 4 (by kernel_rfl)) (hJ.vals 4 _ rfl (hp 4 (by kernel_rfl)))
                      have t28 := hf.in (i := 5) (d := 28) (by kernel_rfl) (hp 5 (by kernel_rfl)) (hJ.vals 5 _ rfl (hp 5 (by kernel_rfl)))
                      have t25 := hf.in (i := 2) (d := 25) (by kernel_rfl) (hp 2 (by kernel_rfl)) (hJ.vals 2 _ rfl (hp 2 (by kernel_rfl)))
                      obtain ⟨⟨u1, u0⟩, u2, u3, u4, u5, u6, u7, u8, u9, u10⟩ := HNUM.out
                      rw [if_pos (wanted_of rfl rfl t25)]
                      go_simp
                      exact hK _ _ (hJ.val HOK 6 _ (by kernel_rfl) rfl (Below.refl _ _))
                    case o8lt_7 =>
                      intro LX V aX wX K hl hp hcl hf hJ hK
                      have t29 := hf.in (i := 6) (d := 29) (by kernel_rfl) (hp 6 (by kernel_rfl)) (hJ.vals 6 _ rfl (hp 6 (by kernel_rfl)))
                      have t25 := hf.in (i := 2) (d := 25) (by kernel_rfl) (hp 2 (by kernel_rfl)) (hJ.vals 2 _ rfl (hp 2 (by kernel_rfl)))
                      obtain ⟨⟨c0, c1⟩, ⟨x0, x1, x2, x3⟩, ⟨y0, y1, y2, y3⟩⟩ := HCE.out wX hJ.below
                      rw [if_pos (wanted_of rfl rfl t25)]
                      go_simp
                      exact hK _ _ (hJ.val HOK 7 _ (by kernel_rfl) rfl (Below.refl _ _))
                    case o8lt_8 =>
                      intro LX V aX wX K hl hp hcl hf hJ hK
                      have t26 := hf.in (i := 3) (d := 26) (by kernel_rfl) (hp 3 (by kernel_rfl)) (hJ.vals 3 _ rfl (hp 3 (by kernel_rfl)))
                      have t30 := hf.in (i := 7) (d := 30) (by kernel_rfl) (hp 7 (by kernel_rfl)) (hJ.vals 7 _ rfl (hp 7 (by kernel_rfl)))
                      have t25 := hf.in (i := 2) (d := 25) (by kernel_rfl) (hp 2 (by kernel_rfl)) (hJ.vals 2 _ rfl (hp 2 (by kernel_rfl)))
                      obtain ⟨⟨u1, u0⟩, u2, u3, u4, u5, u6, u7, u8, u9, u10⟩ := HNUM.out
                      rw [if_pos (wanted_of rfl rfl t25)]
                      go_simp
                      exact hK _ _ (hJ.val HOK 8 _ (by kernel_rfl) rfl (Below.refl _ _))
                    case o8lt_9 =>
                      intro LX V aX wX K hl hp hcl hf hJ hK
                      have t31 := hf.in (i := 8) (d := 31) (by kernel_rfl) (hp 8 (by kernel_rfl)) (hJ.vals 8 _ rfl (hp 8 (by kernel_rfl)))
                      have t25 := hf.in (i := 2) (d := 25) (by kernel_rfl) (hp 2 (by kernel_rfl)) (hJ.vals 2 _ rfl (hp 2 (by kernel_rfl)))
                      obtain ⟨⟨c0, c1⟩, ⟨x0, x1, x2, x3⟩, ⟨y0, y1, y2, y3⟩⟩ := HCE.out wX hJ.below
                      rw [if_pos (wanted_of rfl rfl t25)]
                      go_simp
                      exact hK _ _ (hJ.val HOK 9 _ (by kernel_rfl) rfl (Below.refl _ _))
                    case o8lt_10 =>
                      intro LX V aX wX K hl hp hcl hf hJ hK
                      have t0 : aX.tmps[0]? = some (.slice (some ⟨bb, off, none⟩) n cap) := hf.old (by kernel_rfl) rfl
                      have t25 := hf.in (i := 2) (d := 25) (by kernel_rfl) (hp 2 (by kernel_rfl)) (hJ.vals 2 _ rfl (hp 2 (by kernel_rfl)))
                      rw [if_pos (wanted_of rfl rfl t25)]
                      go_simp
                      exact hK _ _ (hJ.val HOK 10 _ (by kernel_rfl) rfl (Below.refl _ _))
                    case o8lt_11 =>
                      intro LX V aX wX K hl hp hcl hf hJ hK
                      have t7 : aX.tmps[7]? = some (.slice (some ⟨bo, oo, none⟩) no co) := hf.old (by kernel_rfl) rfl
                      have t25 := hf.in (i := 2) (d := 25) (by kernel_rfl) (hp 2 (by kernel_rfl)) (hJ.vals 2 _ rfl (hp 2 (by kernel_rfl)))
                      rw [if_pos (wanted_of rfl rfl t25)]
                      go_simp
                      exact hK _ _ (hJ.val HOK 11 _ (by kernel_rfl) rfl (Below.refl _ _))
                    case o8lt_12 =>
                      intro LX V aX wX K hl hp hcl hf hJ hK
                      have t9 : aX.tmps[9]? = some (.int .i64 (k : Int)) := hf.old (by kernel_rfl) rfl
                      have t25 := hf.in (i := 2) (d := 25) (by kernel_rfl) (hp 2 (by kernel_rfl)) (hJ.vals 2 _ rfl (hp 2 (by kernel_rfl)))
                      rw [if_pos (wanted_of rfl rfl t25)]
                      go_simp
                      exact hK _ _ (hJ.val HOK 12 _ (by kernel_rfl) rfl (Below.refl _ _))
                    case o8lt_13 =>
                      intro LX V aX wX K hl hp hcl hf hJ hK
                      have t35 := hf.in (i := 12) (d := 35) (by kernel_rfl) (hp 12 (by kernel_rfl)) (hJ.vals 12 _ rfl (hp 12 (by kernel_rfl)))
                      have t25 := hf.in (i := 2) (d := 25) (by kernel_rfl) (hp 2 (by kernel_rfl)) (hJ.vals 2 _ rfl (hp 2 (by kernel_rfl)))
                      obtain ⟨⟨u1, u0⟩, u2, u3, u4, u5, u6, u7, u8, u9, u10⟩ := HNUM.out
                      rw [if_pos (wanted_of rfl rfl t25)]
                      go_simp
                      exact hK _ _ (hJ.val HOK 13 _ (by kernel_rfl) rfl (Below.refl _ _))
                    case o8lt_14 =>
                      intro LX V aX wX K hl hp hcl hf hJ hK
                      have t34 := hf.in (i := 11) (d := 34) (by kernel_rfl) (hp 11 (by kernel_rfl)) (hJ.vals 11 _ rfl (hp 11 (by kernel_rfl)))
                      have t36 := hf.in (i := 13) (d := 36) (by kernel_rfl) (hp 13 (by kernel_rfl)) (hJ.vals 13 _ rfl (hp 13 (by kernel_rfl)))
                      have t25 := hf.in (i := 2) (d := 25) (by kernel_rfl) (hp 2 (by kernel_rfl)) (hJ.vals 2 _ rfl (hp 2 (by kernel_rfl)))
                      obtain ⟨⟨u1, u0⟩, u2, u3, u4, u5, u6, u7, u8, u9, u10⟩ := HNUM.out
                      rw [if_pos (wanted_of rfl rfl t25)]
                      go_simp
                      exact hK _ _ (hJ.val HOK 14 _ (by kernel_rfl) rfl (Below.refl _ _))
                    case o8lt_15 =>
                      intro LX V aX wX K hl hp hcl hf hJ hK
                      have t37 := hf.in (i := 14) (d := 37) (by kernel_rfl) (hp 14 (by kernel_rfl)) (hJ.vals 14 _ rfl (hp 14 (by kernel_rfl)))
                      have t25 := hf.in (i := 2) (d := 25) (by kernel_rfl) (hp 2 (by kernel_rfl)) (hJ.vals 2 _ rfl (hp 2 (by kernel_rfl)))
                      obtain ⟨⟨c0, c1⟩, ⟨x0, x1, x2, x3⟩, ⟨y0, y1, y2, y3⟩⟩ := HCE.out wX hJ.below
                      rw [if_pos (wanted_of rfl rfl t25)]
                      go_simp
                      exact hK _ _ (hJ.val HOK 15 _ (by kernel_rfl) rfl (Below.refl _ _))
                    case o8lt_16 =>
                      intro LX V aX wX K hl hp hcl hf hJ hK
                      have t33 := hf.in (i := 10) (d := 33) (by kernel_rfl) (hp 10 (by kernel_rfl)) (hJ.vals 10 _ rfl (hp 10 (by kernel_rfl)))
                      have t38 := hf.in (i := 15) (d := 38) (by kernel_rfl) (hp 15 (by kernel_rfl)) (hJ.vals 15 _ rfl (hp 15 (by kernel_rfl)))
                      have t25 := hf.in (i := 2) (d := 25) (by kernel_rfl) (hp 2 (by kernel_rfl)) (hJ.vals 2 _ rfl (hp 2 (by kernel_rfl)))
                      obtain ⟨⟨u1, u0⟩, u2, u3, u4, u5, u6, u7, u8, u9, u10⟩ := HNUM.out
                      rw [if_pos (wanted_of rfl rfl t25)]
                      go_simp
                      exact hK _ _ (hJ.val HOK 16 _ (by kernel_rfl) rfl (Below.refl _ _))
                    case o8lt_17 =>
                      intro LX V aX wX K hl hp hcl hf hJ hK
                      have t39 := hf.in (i := 16) (d := 39) (by kernel_rfl) (hp 16 (by kernel_rfl)) (hJ.vals 16 _ rfl (hp 16 (by kernel_rfl)))
                      have t25 := hf.in (i := 2) (d := 25) (by kernel_rfl) (hp 2 (by kernel_rfl)) (hJ.vals 2 _ rfl (hp 2 (by kernel_rfl)))
                      obtain ⟨⟨c0, c1⟩, ⟨x0, x1, x2, x3⟩, ⟨y0, y1, y2, y3⟩⟩ := HCE.out wX hJ.below
                      rw [if_pos (wanted_of rfl rfl t25)]
                      go_simp
                      exact hK _ _ (hJ.val HOK 17 _ (by kernel_rfl) rfl (Below.refl _ _))
                    case o8lt_18 =>
                      intro LX V aX wX K hl hp hcl hf hJ hK
                      have t2 : aX.tmps[2]? = some (.int .i64 (lev : Int)) := hf.old (by kernel_rfl) rfl
                      have t25 := hf.in (i := 2) (d := 25) (by kernel_rfl) (hp 2 (by kernel_rfl)) (hJ.vals 2 _ rfl (hp 2 (by kernel_rfl)))
                      rw [if_pos (wanted_of rfl rfl t25)]
                      go_simp
                      exact hK _ _ (hJ.val HOK 18 _ (by kernel_rfl) rfl (Below.refl _ _))
                    case o8lt_19 =>
                      intro LX V aX wX K hl hp hcl hf hJ hK
                      have t32 := hf.in (i := 9) (d := 32) (by kernel_rfl) (hp 9 (by kernel_rfl)) (hJ.vals 9 _ rfl (hp 9 (by kernel_rfl)))
                      have t40 := hf.in (i := 17) (d := 40) (by kernel_rfl) (hp 17 (by kernel_rfl)) (hJ.vals 17 _ rfl (hp 17 (by kernel_rfl)))
                      have t41 := hf.in (i := 18) (d := 41) (by kernel_rfl) (hp 18 (by kernel_rfl)) (hJ.vals 18 _ rfl (hp 18 (by kernel_rfl)))
                      have t25 := hf.in (i := 2) (d := 25) (by kernel_rfl) (hp 2 (by kernel_rfl)) (hJ.vals 2 _ rfl (hp 2 (by kernel_rfl)))
                      rw [if_pos (wanted_of rfl rfl t25)]
                      go_simp
                      refine (HA1.out _ hJ.below).mono ?_
                      rintro e wA ⟨rfl, hbA⟩
                      exact hK _ _ (hJ.val HOK 19 _ (by kernel_rfl) rfl (hbA))
                    case o8lt_20 =>
                      intro LX V aX wX K hl hp hcl hf hJ hK
                      have t42 := hf.in (i := 19) (d := 42) (by kernel_rfl) (hp 19 (by kernel_rfl)) (hJ.vals 19 _ rfl (hp 19 (by kernel_rfl)))
                      have t25 := hf.in (i := 2) (d := 25) (by kernel_rfl) (hp 2 (by kernel_rfl)) (hJ.vals 2 _ rfl (hp 2 (by kernel_rfl)))
                      rw [if_pos (wanted_of rfl rfl t25)]
                      go_simp
                      exact hK _ _ (hJ.val HOK 20 _ (by kernel_rfl) rfl (Below.refl _ _))
                    case o8lt_21 =>
                      intro LX V aX wX K hl hp hcl hf hJ hK
                      have t0 : aX.tmps[0]? = some (.slice (some ⟨bb, off, none⟩) n cap) := hf.old (by kernel_rfl) rfl
                      have t43 := hf.in (i := 20) (d := 43) (by kernel_rfl) (hp 20 (by kernel_rfl)) (hJ.vals 20 _ rfl (hp 20 (by kernel_rfl)))
                      rw [if_pos (wanted_of rfl rfl t43)]
                      go_simp
                      exact hK _ _ (hJ.val HOK 21 _ (by kernel_rfl) rfl (Below.refl _ _))
                    case o8lt_22 =>
                      intro LX V aX wX K hl hp hcl hf hJ hK
                      have t7 : aX.tmps[7]? = some (.slice (some ⟨bo, oo, none⟩) no co) := hf.old (by kernel_rfl) rfl
                      have t43 := hf.in (i := 20) (d := 43) (by kernel_rfl) (hp 20 (by kernel_rfl)) (hJ.vals 20 _ rfl (hp 20 (by kernel_rfl)))
                      rw [if_pos (wanted_of rfl rfl t43)]
                      go_simp
                      exact hK _ _ (hJ.val HOK 22 _ (by kernel_rfl) rfl (Below.refl _ _))
                    case o8lt_23 =>
                      intro LX V aX wX K hl hp hcl hf hJ hK
                      have t9 : aX.tmps[9]? = some (.int .i64 (k : Int)) := hf.old (by kernel_rfl) rfl
                      have t43 := hf.in (i := 20) (d := 43) (by kernel_rfl) (hp 20 (by kernel_rfl)) (hJ.vals 20 _ rfl (hp 20 (by kernel_rfl)))
                      rw [if_pos (wanted_of rfl rfl t43)]
                      go_simp
                      exact hK _ _ (hJ.val HOK 23 _ (by kernel_rfl) rfl (Below.refl _ _))
                    case o8lt_24 =>
                      intro LX V aX wX K hl hp hcl hf hJ hK
                      have t46 := hf.in (i := 23) (d := 46) (by kernel_rfl) (hp 23 (by kernel_rfl)) (hJ.vals 23 _ rfl (hp 23 (by kernel_rfl)))
                      have t43 := hf.in (i := 20) (d := 43) (by kernel_rfl) (hp 20 (by kernel_rfl)) (hJ.vals 20 _ rfl (hp 20 (by kernel_rfl)))
                      obtain ⟨⟨u1, u0⟩, u2, u3, u4, u5, u6, u7, u8, u9, u10⟩ := HNUM.out
                      rw [if_pos (wanted_of rfl rfl t43)]
                      go_simp
                      exact hK _ _ (hJ.val HOK 24 _ (by kernel_rfl) rfl (Below.refl _ _))
                    case o8lt_25 =>
                      intro LX V aX wX K hl hp hcl hf hJ hK
                      have t45 := hf.in (i := 22) (d := 45) (by kernel_rfl) (hp 22 (by kernel_rfl)) (hJ.vals 22 _ rfl (hp 22 (by kernel_rfl)))
                      have t47 := hf.in (i := 24) (d := 47) (by kernel_rfl) (hp 24 (by kernel_rfl)) (hJ.vals 24 _ rfl (hp 24 (by kernel_rfl)))
                      have t43 := hf.in (i := 20) (d := 43) (by kernel_rfl) (hp 20 (by kernel_rfl)) (hJ.vals 20 _ rfl (hp 20 (by kernel_rfl)))
                      obtain ⟨⟨u1, u0⟩, u2, u3, u4, u5, u6, u7, u8, u9, u10⟩ := HNUM.out
                      rw [if_pos (wanted_of rfl rfl t43)]
                      go_simp
                      exact hK _ _ (hJ.val HOK 25 _ (by kernel_rfl) rfl (Below.refl _ _))
                    case o8lt_26 =>
                      intro LX V aX wX K hl hp hcl hf hJ hK
                      have t48 := hf.in (i := 25) (d := 48) (by kernel_rfl) (hp 25 (by kernel_rfl)) (hJ.vals 25 _ rfl (hp 25 (by kernel_rfl)))
                      have t43 := hf.in (i := 20) (d := 43) (by kernel_rfl) (hp 20 (by kernel_rfl)) (hJ.vals 20 _ rfl (hp 20 (by kernel_rfl)))
                      obtain ⟨⟨c0, c1⟩, ⟨x0, x1, x2, x3⟩, ⟨y0, y1, y2, y3⟩⟩ := HCE.out wX hJ.below
                      rw [if_pos (wanted_of rfl rfl t43)]
                      go_simp
                      exact hK _ _ (hJ.val HOK 26 _ (by kernel_rfl) rfl (Below.refl _ _))
                    case o8lt_27 =>
                      intro LX V aX wX K hl hp hcl hf hJ hK
                      have t44 := hf.in (i := 21) (d := 44) (by kernel_rfl) (hp 21 (by kernel_rfl)) (hJ.vals 21 _ rfl (hp 21 (by kernel_rfl)))
                      have t49 := hf.in (i := 26) (d := 49) (by kernel_rfl) (hp 26 (by kernel_rfl)) (hJ.vals 26 _ rfl (hp 26 (by kernel_rfl)))
                      have t43 := hf.in (i := 20) (d := 43) (by kernel_rfl) (hp 20 (by kernel_rfl)) (hJ.vals 20 _ rfl (hp 20 (by kernel_rfl)))
                      obtain ⟨⟨u1, u0⟩, u2, u3, u4, u5, u6, u7, u8, u9, u10⟩ := HNUM.out
                      rw [if_pos (wanted_of rfl rfl t43)]
                      go_simp
                      exact hK _ _ (hJ.val HOK 27 _ (by kernel_rfl) rfl (Below.refl _ _))
                    case o8lt_28 =>
                      intro LX V aX wX K hl hp hcl hf hJ hK
                      have t50 := hf.in (i := 27) (d := 50) (by kernel_rfl) (hp 27 (by kernel_rfl)) (hJ.vals 27 _ rfl (hp 27 (by kernel_rfl)))
                      have t43 := hf.in (i := 20) (d := 43) (by kernel_rfl) (hp 20 (by kernel_rfl)) (hJ.vals 20 _ rfl (hp 20 (by kernel_rfl)))
                      obtain ⟨⟨c0, c1⟩, ⟨x0, x1, x2, x3⟩, ⟨y0, y1, y2, y3⟩⟩ := HCE.out wX hJ.below
                      rw [if_pos (wanted_of rfl rfl t43)]
                      go_simp
                      exact hK _ _ (hJ.val HOK 28 _ (by kernel_rfl) rfl (Below.refl _ _))
                    case o8lt_29 =>
                      intro LX V aX wX K hl hp hcl hf hJ hK
                      have t0 : aX.tmps[0]? = some (.slice (some ⟨bb, off, none⟩) n cap) := hf.old (by kernel_rfl) rfl
                      have t43 := hf.in (i := 20) (d := 43) (by kernel_rfl) (hp 20 (by kernel_rfl)) (hJ.vals 20 _ rfl (hp 20 (by kernel_rfl)))
                      rw [if_pos (wanted_of rfl rfl t43)]
                      go_simp
                      exact hK _ _ (hJ.val HOK 29 _ (by kernel_rfl) rfl (Below.refl _ _))
                    case o8lt_30 =>
                      intro LX V aX wX K hl hp hcl hf hJ hK
                      have t1 : aX.tmps[1]? = some (.slice (some ⟨pb, pf, none⟩) m pc) := hf.old (by kernel_rfl) rfl
                      have t43 := hf.in (i := 20) (d := 43) (by kernel_rfl) (hp 20 (by kernel_rfl)) (hJ.vals 20 _ rfl (hp 20 (by kernel_rfl)))
                      rw [if_pos (wanted_of rfl rfl t43)]
                      go_simp
                      exact hK _ _ (hJ.val HOK 30 _ (by kernel_rfl) rfl (Below.refl _ _))
                    case o8lt_31 =>
                      intro LX V aX wX K hl hp hcl hf hJ hK
                      have t8 : aX.tmps[8]? = some (.int .i64 (i : Int)) := hf.old (by kernel_rfl) rfl
                      have t43 := hf.in (i := 20) (d := 43) (by kernel_rfl) (hp 20 (by kernel_rfl)) (hJ.vals 20 _ rfl (hp 20 (by kernel_rfl)))
                      rw [if_pos (wanted_of rfl rfl t43)]
                      go_simp
                      exact hK _ _ (hJ.val HOK 31 _ (by kernel_rfl) rfl (Below.refl _ _))
                    case o8lt_32 =>
                      intro LX V aX wX K hl hp hcl hf hJ hK
                      have t53 := hf.in (i := 30) (d := 53) (by kernel_rfl) (hp 30 (by kernel_rfl)) (hJ.vals 30 _ rfl (hp 30 (by kernel_rfl)))
                      have t54 := hf.in (i := 31) (d := 54) (by kernel_rfl) (hp 31 (by kernel_rfl)) (hJ.vals 31 _ rfl (hp 31 (by kernel_rfl)))
                      have t43 := hf.in (i := 20) (d := 43) (by kernel_rfl) (hp 20 (by kernel_rfl)) (hJ.vals 20 _ rfl (hp 20 (by kernel_rfl)))
                      obtain ⟨⟨u1, u0⟩, u2, u3, u4, u5, u6, u7, u8, u9, u10⟩ := HNUM.out
                      rw [if_pos (wanted_of rfl rfl t43)]
                      go_simp
                      exact hK _ _ (hJ.val HOK 32 _ (by kernel_rfl) rfl (Below.refl _ _))
                    case o8lt_33 =>
                      intro LX V aX wX K hl hp hcl hf hJ hK
                      have t55 := hf.in (i := 32) (d := 55) (by kernel_rfl) (hp 32 (by kernel_rfl)) (hJ.vals 32 _ rfl (hp 32 (by kernel_rfl)))
                      have t43 := hf.in (i := 20) (d := 43) (by kernel_rfl) (hp 20 (by kernel_rfl)) (hJ.vals 20 _ rfl (hp 20 (by kernel_rfl)))
                      obtain ⟨⟨c0, c1⟩, ⟨x0, x1, x2, x3⟩, ⟨y0, y1, y2, y3⟩⟩ := HCE.out wX hJ.below
                      rw [if_pos (wanted_of rfl rfl t43)]
                      go_simp
                      exact hK _ _ (hJ.val HOK 33 _ (by kernel_rfl) rfl (Below.refl _ _))
                    case o8lt_34 =>
                      intro LX V aX wX K hl hp hcl hf hJ hK
                      have t52 := hf.in (i := 29) (d := 52) (by kernel_rfl) (hp 29 (by kernel_rfl)) (hJ.vals 29 _ rfl (hp 29 (by kernel_rfl)))
                      have t56 := hf.in (i := 33) (d := 56) (by kernel_rfl) (hp 33 (by kernel_rfl)) (hJ.vals 33 _ rfl (hp 33 (by kernel_rfl)))
                      have t43 := hf.in (i := 20) (d := 43) (by kernel_rfl) (hp 20 (by kernel_rfl)) (hJ.vals 20 _ rfl (hp 20 (by kernel_rfl)))
                      obtain ⟨⟨u1, u0⟩, u2, u3, u4, u5, u6, u7, u8, u9, u10⟩ := HNUM.out
                      rw [if_pos (wanted_of rfl rfl t43)]
                      go_simp
                      exact hK _ _ (hJ.val HOK 34 _ (by kernel_rfl) rfl (Below.refl _ _))
                    case o8lt_35 =>
                      intro LX V aX wX K hl hp hcl hf hJ hK
                      have t57 := hf.in (i := 34) (d := 57) (by kernel_rfl) (hp 34 (by kernel_rfl)) (hJ.vals 34 _ rfl (hp 34 (by kernel_rfl)))
                      have t43 := hf.in (i := 20) (d := 43) (by kernel_rfl) (hp 20 (by kernel_rfl)) (hJ.vals 20 _ rfl (hp 20 (by kernel_rfl)))
                      obtain ⟨⟨c0, c1⟩, ⟨x0, x1, x2, x3⟩, ⟨y0, y1, y2, y3⟩⟩ := HCE.out wX hJ.below
                      rw [if_pos (wanted_of rfl rfl t43)]
                      go_simp
                      exact hK _ _ (hJ.val HOK 35 _ (by kernel_rfl) rfl (Below.refl _ _))
                    case o8lt_36 =>
                      intro LX V aX wX K hl hp hcl hf hJ hK
                      have t2 : aX.tmps[2]? = some (.int .i64 (lev : Int)) := hf.old (by kernel_rfl) rfl
                      have t43 := hf.in (i := 20) (d := 43) (by kernel_rfl) (hp 20 (by kernel_rfl)) (hJ.vals 20 _ rfl (hp 20 (by kernel_rfl)))
                      rw [if_pos (wanted_of rfl rfl t43)]
                      go_simp
                      exact hK _ _ (hJ.val HOK 36 _ (by kernel_rfl) rfl (Below.refl _ _))
                    case o8lt_37 =>
                      intro LX V aX wX K hl hp hcl hf hJ hK
                      have t51 := hf.in (i := 28) (d := 51) (by kernel_rfl) (hp 28 (by kernel_rfl)) (hJ.vals 28 _ rfl (hp 28 (by kernel_rfl)))
                      have t58 := hf.in (i := 35) (d := 58) (by kernel_rfl) (hp 35 (by kernel_rfl)) (hJ.vals 35 _ rfl (hp 35 (by kernel_rfl)))
                      have t59 := hf.in (i := 36) (d := 59) (by kernel_rfl) (hp 36 (by kernel_rfl)) (hJ.vals 36 _ rfl (hp 36 (by kernel_rfl)))
                      have t43 := hf.in (i := 20) (d := 43) (by kernel_rfl) (hp 20 (by kernel_rfl)) (hJ.vals 20 _ rfl (hp 20 (by kernel_rfl)))
                      rw [if_pos (wanted_of rfl rfl t43)]
                      go_simp
                      refine (HA2.out _ hJ.below).mono ?_
                      rintro e wA ⟨rfl, hbA⟩
                      exact hK _ _ (hJ.val HOK 37 _ (by kernel_rfl) rfl (hbA))
                    case o8lt_38 =>
                      intro LX V aX wX K hl hp hcl hf hJ hK
                      have t60 := hf.in (i := 37) (d := 60) (by kernel_rfl) (hp 37 (by kernel_rfl)) (hJ.vals 37 _ rfl (hp 37 (by kernel_rfl)))
                      have t43 := hf.in (i := 20) (d := 43) (by kernel_rfl) (hp 20 (by kernel_rfl)) (hJ.vals 20 _ rfl (hp 20 (by kernel_rfl)))
                      rw [if_pos (wanted_of rfl rfl t43)]
                      go_simp
                      exact hK _ _ (hJ.val HOK 38 _ (by kernel_rfl) rfl (Below.refl _ _))
                    case o8lt_39 =>
                      intro LX V aX wX K hl hp hcl hf hJ hK
                      have t61 := hf.in (i := 38) (d := 61) (by kernel_rfl) (hp 38 (by kernel_rfl)) (hJ.vals 38 _ rfl (hp 38 (by kernel_rfl)))
                      have t43 := hf.in (i := 20) (d := 43) (by kernel_rfl) (hp 20 (by kernel_rfl)) (hJ.vals 20 _ rfl (hp 20 (by kernel_rfl)))
                      rw [if_pos (wanted_of rfl rfl t43)]
                      go_simp
                      exact hK _ _ (hJ.val HOK 39 _ (by kernel_rfl) rfl (Below.refl _ _))
                    case o8lt_40 =>
                      intro LX V aX wX K hl hp hcl hf hJ hK
                      have t1 : aX.tmps[1]? = some (.slice (some ⟨pb, pf, none⟩) m pc) := hf.old (by kernel_rfl) rfl
                      have t62 := hf.in (i := 39) (d := 62) (by kernel_rfl) (hp 39 (by kernel_rfl)) (hJ.vals 39 _ rfl (hp 39 (by kernel_rfl)))
                      rw [if_pos (wanted_of rfl rfl t62)]
                      go_simp
                      exact hK _ _ (hJ.val HOK 40 _ (by kernel_rfl) rfl (Below.refl _ _))
                    case o8lt_41 =>
                      intro LX V aX wX K hl hp hcl hf hJ hK
                      have t8 : aX.tmps[8]? = some (.int .i64 (i : Int)) := hf.old (by kernel_rfl) rfl
                      have t62 := hf.in (i := 39) (d := 62) (by kernel_rfl) (hp 39 (by kernel_rfl)) (hJ.vals 39 _ rfl (hp 39 (by kernel_rfl)))
                      rw [if_pos (wanted_of rfl rfl t62)]
                      go_simp
                      exact hK _ _ (hJ.val HOK 41 _ (by kernel_rfl) rfl (Below.refl _ _))
                    case o8lt_42 =>
                      intro LX V aX wX K hl hp hcl hf hJ hK
                      have t63 := hf.in (i := 40) (d := 63) (by kernel_rfl) (hp 40 (by kernel_rfl)) (hJ.vals 40 _ rfl (hp 40 (by kernel_rfl)))
                      have t64 := hf.in (i := 41) (d := 64) (by kernel_rfl) (hp 41 (by kernel_rfl)) (hJ.vals 41 _ rfl (hp 41 (by kernel_rfl)))
                      have t62 := hf.in (i := 39) (d := 62) (by kernel_rfl) (hp 39 (by kernel_rfl)) (hJ.vals 39 _ rfl (hp 39 (by kernel_rfl)))
                      obtain ⟨⟨u1, u0⟩, u2, u3, u4, u5, u6, u7, u8, u9, u10⟩ := HNUM.out
                      rw [if_pos (wanted_of rfl rfl t62)]
                      go_simp
                      exact hK _ _ (hJ.val HOK 42 _ (by kernel_rfl) rfl (Below.refl _ _))
                    case o8lt_43 =>
                      intro LX V aX wX K hl hp hcl hf hJ hK
                      have t65 := hf.in (i := 42) (d := 65) (by kernel_rfl) (hp 42 (by kernel_rfl)) (hJ.vals 42 _ rfl (hp 42 (by kernel_rfl)))
                      have t62 := hf.in (i := 39) (d := 62) (by kernel_rfl) (hp 39 (by kernel_rfl)) (hJ.vals 39 _ rfl (hp 39 (by kernel_rfl)))
                      obtain ⟨⟨c0, c1⟩, ⟨x0, x1, x2, x3⟩, ⟨y0, y1, y2, y3⟩⟩ := HCE.out wX hJ.below
                      rw [if_pos (wanted_of rfl rfl t62)]
                      go_simp
                      exact hK _ _ (hJ.val HOK 43 _ (by kernel_rfl) rfl (Below.refl _ _))
                    case o8lt_44 =>
                      intro LX V aX wX K hl hp hcl hf hJ hK
                      have t7 : aX.tmps[7]? = some (.slice (some ⟨bo, oo, none⟩) no co) := hf.old (by kernel_rfl) rfl
                      have t62 := hf.in (i := 39) (d := 62) (by kernel_rfl) (hp 39 (by kernel_rfl)) (hJ.vals 39 _ rfl (hp 39 (by kernel_rfl)))
                      rw [if_pos (wanted_of rfl rfl t62)]
                      go_simp
                      exact hK _ _ (hJ.val HOK 44 _ (by kernel_rfl) rfl (Below.refl _ _))
                    case o8lt_45 =>
                      intro LX V aX wX K hl hp hcl hf hJ hK
                      have t9 : aX.tmps[9]? = some (.int .i64 (k : Int)) := hf.old (by kernel_rfl) rfl
                      have t62 := hf.in (i := 39) (d := 62) (by kernel_rfl) (hp 39 (by kernel_rfl)) (hJ.vals 39 _ rfl (hp 39 (by kernel_rfl)))
                      rw [if_pos (wanted_of rfl rfl t62)]
                      go_simp
                      exact hK _ _ (hJ.val HOK 45 _ (by kernel_rfl) rfl (Below.refl _ _))
                    case o8lt_46 =>
                      intro LX V aX wX K hl hp hcl hf hJ hK
                      have t68 := hf.in (i := 45) (d := 68) (by kernel_rfl) (hp 45 (by kernel_rfl)) (hJ.vals 45 _ rfl (hp 45 (by kernel_rfl)))
                      have t62 := hf.in (i := 39) (d := 62) (by kernel_rfl) (hp 39 (by kernel_rfl)) (hJ.vals 39 _ rfl (hp 39 (by kernel_rfl)))
                      obtain ⟨⟨u1, u0⟩, u2, u3, u4, u5, u6, u7, u8, u9, u10⟩ := HNUM.out
                      rw [if_pos (wanted_of rfl rfl t62)]
                      go_simp
                      exact hK _ _ (hJ.val HOK 46 _ (by kernel_rfl) rfl (Below.refl _ _))
                    case o8lt_47 =>
                      intro LX V aX wX K hl hp hcl hf hJ hK
                      have t67 := hf.in (i := 44) (d := 67) (by kernel_rfl) (hp 44 (by kernel_rfl)) (hJ.vals 44 _ rfl (hp 44 (by kernel_rfl)))
                      have t69 := hf.in (i := 46) (d := 69) (by kernel_rfl) (hp 46 (by kernel_rfl)) (hJ.vals 46 _ rfl (hp 46 (by kernel_rfl)))
                      have t62 := hf.in (i := 39) (d := 62) (by kernel_rfl) (hp 39 (by kernel_rfl)) (hJ.vals 39 _ rfl (hp 39 (by kernel_rfl)))
                      obtain ⟨⟨u1, u0⟩, u2, u3, u4, u5, u6, u7, u8, u9, u10⟩ := HNUM.out
                      rw [if_pos (wanted_of rfl rfl t62)]
                      go_simp
                      exact hK _ _ (hJ.val HOK 47 _ (by kernel_rfl) rfl (Below.refl _ _))
                    case o8lt_48 =>
                      intro LX V aX wX K hl hp hcl hf hJ hK
                      have t70 := hf.in (i := 47) (d := 70) (by kernel_rfl) (hp 47 (by kernel_rfl)) (hJ.vals 47 _ rfl (hp 47 (by kernel_rfl)))
                      have t62 := hf.in (i := 39) (d := 62) (by kernel_rfl) (hp 39 (by kernel_rfl)) (hJ.vals 39 _ rfl (hp 39 (by kernel_rfl)))
                      obtain ⟨⟨c0, c1⟩, ⟨x0, x1, x2, x3⟩, ⟨y0, y1, y2, y3⟩⟩ := HCE.out wX hJ.below
                      rw [if_pos (wanted_of rfl rfl t62)]
                      go_simp
                      exact hK _ _ (hJ.val HOK 48 _ (by kernel_rfl) rfl (Below.refl _ _))
                    case o8lt_49 =>
                      intro LX V aX wX K hl hp hcl hf hJ hK
                      have t66 := hf.in (i := 43) (d := 66) (by kernel_rfl) (hp 43 (by kernel_rfl)) (hJ.vals 43 _ rfl (hp 43 (by kernel_rfl)))
                      have t71 := hf.in (i := 48) (d := 71) (by kernel_rfl) (hp 48 (by kernel_rfl)) (hJ.vals 48 _ rfl (hp 48 (by kernel_rfl)))
                      have t62 := hf.in (i := 39) (d := 62) (by kernel_rfl) (hp 39 (by kernel_rfl)) (hJ.vals 39 _ rfl (hp 39 (by kernel_rfl)))
                      have hr0 := HR3.out
                      have hr3 : decide ((xn : Int) < (yn : Int)) = true := by simp; omega
                      have hr4 : decide (xn < yn) = true := by simp; omega
                      clear hr0
                      rw [if_pos (wanted_of rfl rfl t62)]
                      go_simp
                      exact hK _ _ (hJ.val HOK 49 _ (by kernel_rfl) rfl (Below.refl _ _))
                    case o8lt_50 =>
                      intro LX V aX wX K hl hp hcl hf hJ hK
                      have t62 := hf.in (i := 39) (d := 62) (by kernel_rfl) (hp 39 (by kernel_rfl)) (hJ.vals 39 _ rfl (hp 39 (by kernel_rfl)))
                      have t72 := hf.in (i := 49) (d := 72) (by kernel_rfl) (hp 49 (by kernel_rfl)) (hJ.vals 49 _ rfl (hp 49 (by kernel_rfl)))
                      have t43 := hf.in (i := 20) (d := 43) (by kernel_rfl) (hp 20 (by kernel_rfl)) (hJ.vals 20 _ rfl (hp 20 (by kernel_rfl)))
                      rw [if_pos (wanted_of rfl rfl t43)]
                      go_simp
                      exact hK _ _ (hJ.val HOK 50 _ (by kernel_rfl) rfl (Below.refl _ _))
                    case o8lt_51 =>
                      intro LX V aX wX K hl hp hcl hf hJ hK
                      have t43 := hf.in (i := 20) (d := 43) (by kernel_rfl) (hp 20 (by kernel_rfl)) (hJ.vals 20 _ rfl (hp 20 (by kernel_rfl)))
                      have t73 := hf.in (i := 50) (d := 73) (by kernel_rfl) (hp 50 (by kernel_rfl)) (hJ.vals 50 _ rfl (hp 50 (by kernel_rfl)))
                      have t25 := hf.in (i := 2) (d := 25) (by kernel_rfl) (hp 2 (by kernel_rfl)) (hJ.vals 2 _ rfl (hp 2 (by kernel_rfl)))
                      rw [if_pos (wanted_of rfl rfl t25)]
                      go_simp
                      exact hK _ _ (hJ.val HOK 51 _ (by kernel_rfl) rfl (Below.refl _ _))
                    case o8lt_52 =>
                      intro LX V aX wX K hl hp hcl hf hJ hK
                      have t25 := hf.in (i := 2) (d := 25) (by kernel_rfl) (hp 2 (by kernel_rfl)) (hJ.vals 2 _ rfl (hp 2 (by kernel_rfl)))
                      have t74 := hf.in (i := 51) (d := 74) (by kernel_rfl) (hp 51 (by kernel_rfl)) (hJ.vals 51 _ rfl (hp 51 (by kernel_rfl)))
                      rw [if_pos (by rfl)]
                      go_simp
                      exact hK _ _ (hJ.val HOK 52 _ (by kernel_rfl) rfl (Below.refl _ _))
                  intro V wZ hJ
                  have hv := hJ.vals 52 _ rfl (by kernel_rfl)
                  have HBY := Lib.hid hJ.below
                  simp only [puts, Act.put, List.setIfInBounds_toArray, List.set_cons_zero, List.set_cons_succ]
                  rw [hv]
                  clear hJ HOK hv
                  obtain ⟨wy, hwy⟩ : ∃ wy, wy = wZ := ⟨_, rfl⟩
                  rw [← hwy] at HBY ⊢
                  clear hwy
                  have hwk := HWK.out
                  go_wp2_with fail
                  go_roundw
                  case rel => exact ⟨k1, by have := HK1.out; omega, by go_num, Lib.hid (HDRP.out (HLT.out.1 (by simp [HR3.out]))), Lib.hid (hbk.out.trans (HBY.out.mono hbk.out.size))⟩
                  case measure => have := HK1.out; simp [intOf]; omega
                · have HR3 := Lib.hid h3
                  clear h3
                  have HRS := Lib.hid (HRES.out (fun h => absurd (HLT.out.2 h) (by simp [HR3.out])))
                  go_wp2_with fail
                  have HOK : ∀ f ∈ ([] : List Fct), FctOk f := by
                    intro f hf; cases hf
                  refine wp_region_J (s := [(23, 0), (24, 1), (25, 2), (26, 3), (27, 4), (28, 5), (29, 6), (30, 7), (31, 8), (32, 9), (33, 10), (34, 11), (35, 12), (36, 13), (37, 14), (38, 15), (39, 16), (40, 17), (41, 18), (42, 19), (43, 20), (44, 21), (45, 22), (46, 23), (47, 24), (48, 25), (49, 26), (50, 27), (51, 28), (52, 29), (53, 30), (54, 31), (55, 32), (56, 33), (57, 34), (58, 35), (59, 36), (60, 37), (61, 38), (62, 39), (63, 40), (64, 41), (65, 42), (66, 43), (67, 44), (68, 45), (69, 46), (70, 47), (71, 48), (72, 49), (73, 50), (74, 51), (75, 52)]) (by kernel_rfl) (GrowJ wr (fun iX => match iX with | 0 => some (.int .i64 (k : Int)) | 1 => some (.bool true) | 2 => some (.bool true) | 3 => some (.slice (some ⟨bb, off, none⟩) n cap) | 4 => some (.slice (some ⟨pb, pf, none⟩) m pc) | 5 => some (.int .i64 (i : Int)) | 6 => some (.pointer (some ⟨pb, pf + i, none⟩)) | 7 => some (.int .i64 (xn : Int)) | 8 => some (.pointer (some ⟨bb, off + xn * 4, none⟩)) | 9 => some (.agg #[.int .i64 bx.1.x, .int .i64 bx.1.y, .int .i64 bx.2.x, .int .i64 bx.2.y]) | 10 => some (.slice (some ⟨bb, off, none⟩) n cap) | 11 => some (.slice (some ⟨bo, oo, none⟩) no co) | 12 => some (.int .i64 (k : Int)) | 13 => some (.int .i64 (k1 : Int)) | 14 => some (.pointer (some ⟨bo, oo + k1, none⟩)) | 15 => some (.int .i64 (yn : Int)) | 16 => some (.pointer (some ⟨bb, off + yn * 4, none⟩)) | 17 => some (.agg #[.int .i64 by_.1.x, .int .i64 by_.1.y, .int .i64 by_.2.x, .int .i64 by_.2.y]) | 18 => some (.int .i64 (lev : Int)) | 19 => some (.bool false) | 20 => some (.bool false) | 21 => some (.slice (some ⟨bb, off, none⟩) n cap) | 22 => some (.slice (some ⟨bo, oo, none⟩) no co) | 23 => some (.int .i64 (k : Int)) | 24 => some (.int .i64 (k1 : Int)) | 25 => some (.pointer (some ⟨bo, oo + k1, none⟩)) | 26 => some (.int .i64 (yn : Int)) | 27 => some (.pointer (some ⟨bb, off + yn * 4, none⟩)) | 28 => some (.agg #[.int .i64 by_.1.x, .int .i64 by_.1.y, .int .i64 by_.2.x, .int .i64 by_.2.y]) | 29 => some (.slice (some ⟨bb, off, none⟩) n cap) | 30 => some (.slice (some ⟨pb, pf, none⟩) m pc) | 31 => some (.int .i64 (i : Int)) | 32 => some (.pointer (some ⟨pb, pf + i, none⟩)) | 33 => some (.int .i64 (xn : Int)) | 34 => some (.pointer (some ⟨bb, off + xn * 4, none⟩)) | 35 => some (.agg #[.int .i64 bx.1.x, .int .i64 bx.1.y, .int .i64 bx.2.x, .int .i64 bx.2.y]) | 36 => some (.int .i64 (lev : Int)) | 37 => some (.bool false) | 38 => some (.bool true) | 39 => some (.bool true) | 40 => some (.slice (some ⟨pb, pf, none⟩) m pc) | 41 => some (.int .i64 (i : Int)) | 42 => some (.pointer (some ⟨pb, pf + i, none⟩)) | 43 => some (.int .i64 (xn : Int)) | 44 => some (.slice (some ⟨bo, oo, none⟩) no co) | 45 => some (.int .i64 (k : Int)) | 46 => some (.int .i64 (k1 : Int)) | 47 => some (.pointer (some ⟨bo, oo + k1, none⟩)) | 48 => some (.int .i64 (yn : Int)) | 49 => some (.bool false) | 50 => some (.bool false) | 51 => some (.bool false) | 52 => some (.bool false) | _ => none) []) (by kernel_rfl) (by kernel_rfl) (by kernel_rfl) (by kernel_rfl) (fun _ => undef) ?start8ge ?step8ge ?done8ge
                  case start8ge => exact GrowJ.start ((Below.refl _ _).drew)
                  case step8ge =>
                    refine ⟨?o8ge_0, ?o8ge_1, ?o8ge_2, ?o8ge_3, ?o8ge_4, ?o8ge_5, ?o8ge_6, ?o8ge_7, ?o8ge_8, ?o8ge_9, ?o8ge_10, ?o8ge_11, ?o8ge_12, ?o8ge_13, ?o8ge_14, ?o8ge_15, ?o8ge_16, ?o8ge_17, ?o8ge_18, ?o8ge_19, ?o8ge_20, ?o8ge_21, ?o8ge_22, ?o8ge_23, ?o8ge_24, ?o8ge_25, ?o8ge_26, ?o8ge_27, ?o8ge_28, ?o8ge_29, ?o8ge_30, ?o8ge_31, ?o8ge_32, ?o8ge_33, ?o8ge_34, ?o8ge_35, ?o8ge_36, ?o8ge_37, ?o8ge_38, ?o8ge_39, ?o8ge_40, ?o8ge_41, ?o8ge_42, ?o8ge_43, ?o8ge_44, ?o8ge_45, ?o8ge_46, ?o8ge_47, ?o8ge_48, ?o8ge_49, ?o8ge_50, ?o8ge_51, ?o8ge_52, trivial⟩
                    case o8ge_0 =>
                      intro LX V aX wX K hl hp hcl hf hJ hK
                      have t9 : aX.tmps[9]? = some (.int .i64 (k : Int)) := hf.old (by kernel_rfl) rfl
                      rw [if_pos (by rfl)]
                      go_simp
                      exact hK _ _ (hJ.val HOK 0 _ (by kernel_rfl) rfl (Below.refl _ _))
                    case o8ge_1 =>
                      intro LX V aX wX K hl hp hcl hf hJ hK
                      have t23 := hf.in (i := 0) (d := 23) (by kernel_rfl) (hp 0 (by kernel_rfl)) (hJ.vals 0 _ rfl (hp 0 (by kernel_rfl)))
                      obtain ⟨⟨u1, u0⟩, u2, u3, u4, u5, u6, u7, u8, u9, u10⟩ := HNUM.out
                      rw [if_pos (by rfl)]
                      go_simp
                      exact hK _ _ (hJ.val HOK 1 _ (by kernel_rfl) rfl (Below.refl _ _))
                    case o8ge_2 =>
                      intro LX V aX wX K hl hp hcl hf hJ hK
                      have t24 := hf.in (i := 1) (d := 24) (by kernel_rfl) (hp 1 (by kernel_rfl)) (hJ.vals 1 _ rfl (hp 1 (by kernel_rfl)))
                      rw [if_pos (by rfl)]
                      go_simp
                      exact hK _ _ (hJ.val HOK 2 _ (by kernel_rfl) rfl (Below.refl _ _))
                    case o8ge_3 =>
                      intro LX V aX wX K hl hp hcl hf hJ hK
                      have t0 : aX.tmps[0]? = some (.slice (some ⟨bb, off, none⟩) n cap) := hf.old (by kernel_rfl) rfl
                      have t25 := hf.in (i := 2) (d := 25) (by kernel_rfl) (hp 2 (by kernel_rfl)) (hJ.vals 2 _ rfl (hp 2 (by kernel_rfl)))
                      rw [if_pos (wanted_of rfl rfl t25)]
                      go_simp
                      exact hK _ _ (hJ.val HOK 3 _ (by kernel_rfl) rfl (Below.refl _ _))
                    case o8ge_4 =>
                      intro LX V aX wX K hl hp hcl hf hJ hK
                      have t1 : aX.tmps[1]? = some (.slice (some ⟨pb, pf, none⟩) m pc) := hf.old (by kernel_rfl) rfl
                      have t25 := hf.in (i := 2) (d := 25) (by kernel_rfl) (hp 2 (by kernel_rfl)) (hJ.vals 2 _ rfl (hp 2 (by kernel_rfl)))
                      rw [if_pos (wanted_of rfl rfl t25)]
                      go_simp
                      exact hK _ _ (hJ.val HOK 4 _ (by kernel_rfl) rfl (Below.refl _ _))
                    case o8ge_5 =>
                      intro LX V aX wX K hl hp hcl hf hJ hK
                      have t8 : aX.tmps[8]? = some (.int .i64 (i : Int)) := hf.old (by kernel_rfl) rfl
                      have t25 := hf.in (i := 2) (d := 25) (by kernel_rfl) (hp 2 (by kernel_rfl)) (hJ.vals 2 _ rfl (hp 2 (by kernel_rfl)))
                      rw [if_pos (wanted_of rfl rfl t25)]
                      go_simp
                      exact hK _ _ (hJ.val HOK 5 _ (by kernel_rfl) rfl (Below.refl _ _))
                    case o8ge_6 =>
                      intro LX V aX wX K hl hp hcl hf hJ hK
                      have t27 := hf.in (i := 4) (d := 27) (by kernel_rfl) (hp 4 (by kernel_rfl)) (hJ.vals 4 _ rfl (hp 4 (by kernel_rfl)))
                      have t28 := hf.in (i := 5) (d := 28) (by kernel_rfl) (hp 5 (by kernel_rfl)) (hJ.vals 5 _ rfl (hp 5 (by kernel_rfl)))
                      have t25 := hf.in (i := 2) (d := 25) (by kernel_rfl) (hp 2 (by kernel_rfl)) (hJ.vals 2 _ rfl (hp 2 (by kernel_rfl)))
                      obtain ⟨⟨u1, u0⟩, u2, u3, u4, u5, u6, u7, u8, u9, u10⟩ := HNUM.out
                      rw [if_pos (wanted_of rfl rfl t25)]
                      go_simp
                      exact hK _ _ (hJ.val HOK 6 _ (by kernel_rfl) rfl (Below.refl _ _))
                    case o8ge_7 =>
                      intro LX V aX wX K hl hp hcl hf hJ hK
                      have t29 := hf.in (i := 6) (d := 29) (by kernel_rfl) (hp 6 (by kernel_rfl)) (hJ.vals 6 _ rfl (hp 6 (by kernel_rfl)))
                      have t25 := hf.in (i := 2) (d := 25) (by kernel_rfl) (hp 2 (by kernel_rfl)) (hJ.vals 2 _ rfl (hp 2 (by kernel_rfl)))
                      obtain ⟨⟨c0, c1⟩, ⟨x0, x1, x2, x3⟩, ⟨y0, y1, y2, y3⟩⟩ := HCE.out wX hJ.below
                      rw [if_pos (wanted_of rfl rfl t25)]
                      go_simp
                      exact hK _ _ (hJ.val HOK 7 _ (by kernel_rfl) rfl (Below.refl _ _))
                    case o8ge_8 =>
                      intro LX V aX wX K hl hp hcl hf hJ hK
                      have t26 := hf.in (i := 3) (d := 26) (by kernel_rfl) (hp 3 (by kernel_rfl)) (hJ.vals 3 _ rfl (hp 3 (by kernel_rfl)))
                      have t30 := hf.in (i := 7) (d := 30) (by kernel_rfl) (hp 7 (by kernel_rfl)) (hJ.vals 7 _ rfl (hp 7 (by kernel_rfl)))
                      have t25 := hf.in (i := 2) (d := 25) (by kernel_rfl) (hp 2 (by kernel_rfl)) (hJ.vals 2 _ rfl (hp 2 (by kernel_rfl)))
                      obtain ⟨⟨u1, u0⟩, u2, u3, u4, u5, u6, u7, u8, u9, u10⟩ := HNUM.out
                      rw [if_pos (wanted_of rfl rfl t25)]
                      go_simp
                      exact hK _ _ (hJ.val HOK 8 _ (by kernel_rfl) rfl (Below.refl _ _))
                    case o8ge_9 =>
                      intro LX V aX wX K hl hp hcl hf hJ hK
                      have t31 := hf.in (i := 8) (d := 31) (by kernel_rfl) (hp 8 (by kernel_rfl)) (hJ.vals 8 _ rfl (hp 8 (by kernel_rfl)))
                      have t25 := hf.in (i := 2) (d := 25) (by kernel_rfl) (hp 2 (by kernel_rfl)) (hJ.vals 2 _ rfl (hp 2 (by kernel_rfl)))
                      obtain ⟨⟨c0, c1⟩, ⟨x0, x1, x2, x3⟩, ⟨y0, y1, y2, y3⟩⟩ := HCE.out wX hJ.below
                      rw [if_pos (wanted_of rfl rfl t25)]
                      go_simp
                      exact hK _ _ (hJ.val HOK 9 _ (by kernel_rfl) rfl (Below.refl _ _))
                    case o8ge_10 =>
                      intro LX V aX wX K hl hp hcl hf hJ hK
                      have t0 : aX.tmps[0]? = some (.slice (some ⟨bb, off, none⟩) n cap) := hf.old (by kernel_rfl) rfl
                      have t25 := hf.in (i := 2) (d := 25) (by kernel_rfl) (hp 2 (by kernel_rfl)) (hJ.vals 2 _ rfl (hp 2 (by kernel_rfl)))
                      rw [if_pos (wanted_of rfl rfl t25)]
                      go_simp
                      exact hK _ _ (hJ.val HOK 10 _ (by kernel_rfl) rfl (Below.refl _ _))
                    case o8ge_11 =>
                      intro LX V aX wX K hl hp hcl hf hJ hK
                      have t7 : aX.tmps[7]? = some (.slice (some ⟨bo, oo, none⟩) no co) := hf.old (by kernel_rfl) rfl
                      have t25 := hf.in (i := 2) (d := 25) (by kernel_rfl) (hp 2 (by kernel_rfl)) (hJ.vals 2 _ rfl (hp 2 (by kernel_rfl)))
                      rw [if_pos (wanted_of rfl rfl t25)]
                      go_simp
                      exact hK _ _ (hJ.val HOK 11 _ (by kernel_rfl) rfl (Below.refl _ _))
                    case o8ge_12 =>
                      intro LX V aX wX K hl hp hcl hf hJ hK
                      have t9 : aX.tmps[9]? = some (.int .i64 (k : Int)) := hf.old (by kernel_rfl) rfl
                      have t25 := hf.in (i := 2) (d := 25) (by kernel_rfl) (hp 2 (by kernel_rfl)) (hJ.vals 2 _ rfl (hp 2 (by kernel_rfl)))
                      rw [if_pos (wanted_of rfl rfl t25)]
                      go_simp
                      exact hK _ _ (hJ.val HOK 12 _ (by kernel_rfl) rfl (Below.refl _ _))
                    case o8ge_13 =>
                      intro LX V aX wX K hl hp hcl hf hJ hK
                      have t35 := hf.in (i := 12) (d := 35) (by kernel_rfl) (hp 12 (by kernel_rfl)) (hJ.vals 12 _ rfl (hp 12 (by kernel_rfl)))
                      have t25 := hf.in (i := 2) (d := 25) (by kernel_rfl) (hp 2 (by kernel_rfl)) (hJ.vals 2 _ rfl (hp 2 (by kernel_rfl)))
                      obtain ⟨⟨u1, u0⟩, u2, u3, u4, u5, u6, u7, u8, u9, u10⟩ := HNUM.out
                      rw [if_pos (wanted_of rfl rfl t25)]
                      go_simp
                      exact hK _ _ (hJ.val HOK 13 _ (by kernel_rfl) rfl (Below.refl _ _))
                    case o8ge_14 =>
                      intro LX V aX wX K hl hp hcl hf hJ hK
                      have t34 := hf.in (i := 11) (d := 34) (by kernel_rfl) (hp 11 (by kernel_rfl)) (hJ.vals 11 _ rfl (hp 11 (by kernel_rfl)))
                      have t36 := hf.in (i := 13) (d := 36) (by kernel_rfl) (hp 13 (by kernel_rfl)) (hJ.vals 13 _ rfl (hp 13 (by kernel_rfl)))
                      have t25 := hf.in (i := 2) (d := 25) (by kernel_rfl) (hp 2 (by kernel_rfl)) (hJ.vals 2 _ rfl (hp 2 (by kernel_rfl)))
                      obtain ⟨⟨u1, u0⟩, u2, u3, u4, u5, u6, u7, u8, u9, u10⟩ := HNUM.out
                      rw [if_pos (wanted_of rfl rfl t25)]
                      go_simp
                      exact hK _ _ (hJ.val HOK 14 _ (by kernel_rfl) rfl (Below.refl _ _))
                    case o8ge_15 =>
                      intro LX V aX wX K hl hp hcl hf hJ hK
                      have t37 := hf.in (i := 14) (d := 37) (by kernel_rfl) (hp 14 (by kernel_rfl)) (hJ.vals 14 _ rfl (hp 14 (by kernel_rfl)))
                      have t25 := hf.in (i := 2) (d := 25) (by kernel_rfl) (hp 2 (by kernel_rfl)) (hJ.vals 2 _ rfl (hp 2 (by kernel_rfl)))
                      obtain ⟨⟨c0, c1⟩, ⟨x0, x1, x2, x3⟩, ⟨y0, y1, y2, y3⟩⟩ := HCE.out wX hJ.below
                      rw [if_pos (wanted_of rfl rfl t25)]
                      go_simp
                      exact hK _ _ (hJ.val HOK 15 _ (by kernel_rfl) rfl (Below.refl _ _))
                    case o8ge_16 =>
                      intro LX V aX wX K hl hp hcl hf hJ hK
                      have t33 := hf.in (i := 10) (d := 33) (by kernel_rfl) (hp 10 (by kernel_rfl)) (hJ.vals 10 _ rfl (hp 10 (by kernel_rfl)))
                      have t38 := hf.in (i := 15) (d := 38) (by kernel_rfl) (hp 15 (by kernel_rfl)) (hJ.vals 15 _ rfl (hp 15 (by kernel_rfl)))
                      have t25 := hf.in (i := 2) (d := 25) (by kernel_rfl) (hp 2 (by kernel_rfl)) (hJ.vals 2 _ rfl (hp 2 (by kernel_rfl)))
                      obtain ⟨⟨u1, u0⟩, u2, u3, u4, u5, u6, u7, u8, u9, u10⟩ := HNUM.out
                      rw [if_pos (wanted_of rfl rfl t25)]
                      go_simp
                      exact hK _ _ (hJ.val HOK 16 _ (by kernel_rfl) rfl (Below.refl _ _))
                    case o8ge_17 =>
                      intro LX V aX wX K hl hp hcl hf hJ hK
                      have t39 := hf.in (i := 16) (d := 39) (by kernel_rfl) (hp 16 (by kernel_rfl)) (hJ.vals 16 _ rfl (hp 16 (by kernel_rfl)))
                      have t25 := hf.in (i := 2) (d := 25) (by kernel_rfl) (hp 2 (by kernel_rfl)) (hJ.vals 2 _ rfl (hp 2 (by kernel_rfl)))
                      obtain ⟨⟨c0, c1⟩, ⟨x0, x1, x2, x3⟩, ⟨y0, y1, y2, y3⟩⟩ := HCE.out wX hJ.below
                      rw [if_pos (wanted_of rfl rfl t25)]
                      go_simp
                      exact hK _ _ (hJ.val HOK 17 _ (by kernel_rfl) rfl (Below.refl _ _))
                    case o8ge_18 =>
                      intro LX V aX wX K hl hp hcl hf hJ hK
                      have t2 : aX.tmps[2]? = some (.int .i64 (lev : Int)) := hf.old (by kernel_rfl) rfl
                      have t25 := hf.in (i := 2) (d := 25) (by kernel_rfl) (hp 2 (by kernel_rfl)) (hJ.vals 2 _ rfl (hp 2 (by kernel_rfl)))
                      rw [if_pos (wanted_of rfl rfl t25)]
                      go_simp
                      exact hK _ _ (hJ.val HOK 18 _ (by kernel_rfl) rfl (Below.refl _ _))
                    case o8ge_19 =>
                      intro LX V aX wX K hl hp hcl hf hJ hK
                      have t32 := hf.in (i := 9) (d := 32) (by kernel_rfl) (hp 9 (by kernel_rfl)) (hJ.vals 9 _ rfl (hp 9 (by kernel_rfl)))
                      have t40 := hf.in (i := 17) (d := 40) (by kernel_rfl) (hp 17 (by kernel_rfl)) (hJ.vals 17 _ rfl (hp 17 (by kernel_rfl)))
                      have t41 := hf.in (i := 18) (d := 41) (by kernel_rfl) (hp 18 (by kernel_rfl)) (hJ.vals 18 _ rfl (hp 18 (by kernel_rfl)))
                      have t25 := hf.in (i := 2) (d := 25) (by kernel_rfl) (hp 2 (by kernel_rfl)) (hJ.vals 2 _ rfl (hp 2 (by kernel_rfl)))
                      rw [if_pos (wanted_of rfl rfl t25)]
                      go_simp
                      refine (HA1.out _ hJ.below).mono ?_
                      rintro e wA ⟨rfl, hbA⟩
                      exact hK _ _ (hJ.val HOK 19 _ (by kernel_rfl) rfl (hbA))
                    case o8ge_20 =>
                      intro LX V aX wX K hl hp hcl hf hJ hK
                      have t42 := hf.in (i := 19) (d := 42) (by kernel_rfl) (hp 19 (by kernel_rfl)) (hJ.vals 19 _ rfl (hp 19 (by kernel_rfl)))
                      have t25 := hf.in (i := 2) (d := 25) (by kernel_rfl) (hp 2 (by kernel_rfl)) (hJ.vals 2 _ rfl (hp 2 (by kernel_rfl)))
                      rw [if_pos (wanted_of rfl rfl t25)]
                      go_simp
                      exact hK _ _ (hJ.val HOK 20 _ (by kernel_rfl) rfl (Below.refl _ _))
                    case o8ge_21 =>
                      intro LX V aX wX K hl hp hcl hf hJ hK
                      have t0 : aX.tmps[0]? = some (.slice (some ⟨bb, off, none⟩) n cap) := hf.old (by kernel_rfl) rfl
                      have t43 := hf.in (i := 20) (d := 43) (by kernel_rfl) (hp 20 (by kernel_rfl)) (hJ.vals 20 _ rfl (hp 20 (by kernel_rfl)))
                      rw [if_pos (wanted_of rfl rfl t43)]
                      go_simp
                      exact hK _ _ (hJ.val HOK 21 _ (by kernel_rfl) rfl (Below.refl _ _))
                    case o8ge_22 =>
                      intro LX V aX wX K hl hp hcl hf hJ hK
                      have t7 : aX.tmps[7]? = some (.slice (some ⟨bo, oo, none⟩) no co) := hf.old (by kernel_rfl) rfl
                      have t43 := hf.in (i := 20) (d := 43) (by kernel_rfl) (hp 20 (by kernel_rfl)) (hJ.vals 20 _ rfl (hp 20 (by kernel_rfl)))
                      rw [if_pos (wanted_of rfl rfl t43)]
                      go_simp
                      exact hK _ _ (hJ.val HOK 22 _ (by kernel_rfl) rfl (Below.refl _ _))
                    case o8ge_23 =>
                      intro LX V aX wX K hl hp hcl hf hJ hK
                      have t9 : aX.tmps[9]? = some (.int .i64 (k : Int)) := hf.old (by kernel_rfl) rfl
                      have t43 := hf.in (i := 20) (d := 43) (by kernel_rfl) (hp 20 (by kernel_rfl)) (hJ.vals 20 _ rfl (hp 20 (by kernel_rfl)))
                      rw [if_pos (wanted_of rfl rfl t43)]
                      go_simp
                      exact hK _ _ (hJ.val HOK 23 _ (by kernel_rfl) rfl (Below.refl _ _))
                    case o8ge_24 =>
                      intro LX V aX wX K hl hp hcl hf hJ hK
                      have t46 := hf.in (i := 23) (d := 46) (by kernel_rfl) (hp 23 (by kernel_rfl)) (hJ.vals 23 _ rfl (hp 23 (by kernel_rfl)))
                      have t43 := hf.in (i := 20) (d := 43) (by kernel_rfl) (hp 20 (by kernel_rfl)) (hJ.vals 20 _ rfl (hp 20 (by kernel_rfl)))
                      obtain ⟨⟨u1, u0⟩, u2, u3, u4, u5, u6, u7, u8, u9, u10⟩ := HNUM.out
                      rw [if_pos (wanted_of rfl rfl t43)]
                      go_simp
                      exact hK _ _ (hJ.val HOK 24 _ (by kernel_rfl) rfl (Below.refl _ _))
                    case o8ge_25 =>
                      intro LX V aX wX K hl hp hcl hf hJ hK
                      have t45 := hf.in (i := 22) (d := 45) (by kernel_rfl) (hp 22 (by kernel_rfl)) (hJ.vals 22 _ rfl (hp 22 (by kernel_rfl)))
                      have t47 := hf.in (i := 24) (d := 47) (by kernel_rfl) (hp 24 (by kernel_rfl)) (hJ.vals 24 _ rfl (hp 24 (by kernel_rfl)))
                      have t43 := hf.in (i := 20) (d := 43) (by kernel_rfl) (hp 20 (by kernel_rfl)) (hJ.vals 20 _ rfl (hp 20 (by kernel_rfl)))
                      obtain ⟨⟨u1, u0⟩, u2, u3, u4, u5, u6, u7, u8, u9, u10⟩ := HNUM.out
                      rw [if_pos (wanted_of rfl rfl t43)]
                      go_simp
                      exact hK _ _ (hJ.val HOK 25 _ (by kernel_rfl) rfl (Below.refl _ _))
                    case o8ge_26 =>
                      intro LX V aX wX K hl hp hcl hf hJ hK
                      have t48 := hf.in (i := 25) (d := 48) (by kernel_rfl) (hp 25 (by kernel_rfl)) (hJ.vals 25 _ rfl (hp 25 (by kernel_rfl)))
                      have t43 := hf.in (i := 20) (d := 43) (by kernel_rfl) (hp 20 (by kernel_rfl)) (hJ.vals 20 _ rfl (hp 20 (by kernel_rfl)))
                      obtain ⟨⟨c0, c1⟩, ⟨x0, x1, x2, x3⟩, ⟨y0, y1, y2, y3⟩⟩ := HCE.out wX hJ.below
                      rw [if_pos (wanted_of rfl rfl t43)]
                      go_simp
                      exact hK _ _ (hJ.val HOK 26 _ (by kernel_rfl) rfl (Below.refl _ _))
                    case o8ge_27 =>
                      intro LX V aX wX K hl hp hcl hf hJ hK
                      have t44 := hf.in (i := 21) (d := 44) (by kernel_rfl) (hp 21 (by kernel_rfl)) (hJ.vals 21 _ rfl (hp 21 (by kernel_rfl)))
                      have t49 := hf.in (i := 26) (d := 49) (by kernel_rfl) (hp 26 (by kernel_rfl)) (hJ.vals 26 _ rfl (hp 26 (by kernel_rfl)))
                      have t43 := hf.in (i := 20) (d := 43) (by kernel_rfl) (hp 20 (by kernel_rfl)) (hJ.vals 20 _ rfl (hp 20 (by kernel_rfl)))
                      obtain ⟨⟨u1, u0⟩, u2, u3, u4, u5, u6, u7, u8, u9, u10⟩ := HNUM.out
                      rw [if_pos (wanted_of rfl rfl t43)]
                      go_simp
                      exact hK _ _ (hJ.val HOK 27 _ (by kernel_rfl) rfl (Below.refl _ _))
                    case o8ge_28 =>
                      intro LX V aX wX K hl hp hcl hf hJ hK
                      have t50 := hf.in (i := 27) (d := 50) (by kernel_rfl) (hp 27 (by kernel_rfl)) (hJ.vals 27 _ rfl (hp 27 (by kernel_rfl)))
                      have t43 := hf.in (i := 20) (d := 43) (by kernel_rfl) (hp 20 (by kernel_rfl)) (hJ.vals 20 _ rfl (hp 20 (by kernel_rfl)))
                      obtain ⟨⟨c0, c1⟩, ⟨x0, x1, x2, x3⟩, ⟨y0, y1, y2, y3⟩⟩ := HCE.out wX hJ.below
                      rw [if_pos (wanted_of rfl rfl t43)]
                      go_simp
                      exact hK _ _ (hJ.val HOK 28 _ (by kernel_rfl) rfl (Below.refl _ _))
                    case o8ge_29 =>
                      intro LX V aX wX K hl hp hcl hf hJ hK
                      have t0 : aX.tmps[0]? = some (.slice (some ⟨bb, off, none⟩) n cap) := hf.old (by kernel_rfl) rfl
                      have t43 := hf.in (i := 20) (d := 43) (by kernel_rfl) (hp 20 (by kernel_rfl)) (hJ.vals 20 _ rfl (hp 20 (by kernel_rfl)))
                      rw [if_pos (wanted_of rfl rfl t43)]
                      go_simp
                      exact hK _ _ (hJ.val HOK 29 _ (by kernel_rfl) rfl (Below.refl _ _))
                    case o8ge_30 =>
                      intro LX V aX wX K hl hp hcl hf hJ hK
                      have t1 : aX.tmps[1]? = some (.slice (some ⟨pb, pf, none⟩) m pc) := hf.old (by kernel_rfl) rfl
                      have t43 := hf.in (i := 20) (d := 43) (by kernel_rfl) (hp 20 (by kernel_rfl)) (hJ.vals 20 _ rfl (hp 20 (by kernel_rfl)))
                      rw [if_pos (wanted_of rfl rfl t43)]
                      go_simp
                      exact hK _ _ (hJ.val HOK 30 _ (by kernel_rfl) rfl (Below.refl _ _))
                    case o8ge_31 =>
                      intro LX V aX wX K hl hp hcl hf hJ hK
                      have t8 : aX.tmps[8]? = some (.int .i64 (i : Int)) := hf.old (by kernel_rfl) rfl
                      have t43 := hf.in (i := 20) (d := 43) (by kernel_rfl) (hp 20 (by kernel_rfl)) (hJ.vals 20 _ rfl (hp 20 (by kernel_rfl)))
                      rw [if_pos (wanted_of rfl rfl t43)]
                      go_simp
                      exact hK _ _ (hJ.val HOK 31 _ (by kernel_rfl) rfl (Below.refl _ _))
                    case o8ge_32 =>
                      intro LX V aX wX K hl hp hcl hf hJ hK
                      have t53 := hf.in (i := 30) (d := 53) (by kernel_rfl) (hp 30 (by kernel_rfl)) (hJ.vals 30 _ rfl (hp 30 (by kernel_rfl)))
                      have t54 := hf.in (i := 31) (d := 54) (by kernel_rfl) (hp 31 (by kernel_rfl)) (hJ.vals 31 _ rfl (hp 31 (by kernel_rfl)))
                      have t43 := hf.in (i := 20) (d := 43) (by kernel_rfl) (hp 20 (by kernel_rfl)) (hJ.vals 20 _ rfl (hp 20 (by kernel_rfl)))
                      obtain ⟨⟨u1, u0⟩, u2, u3, u4, u5, u6, u7, u8, u9, u10⟩ := HNUM.out
                      rw [if_pos (wanted_of rfl rfl t43)]
                      go_simp
                      exact hK _ _ (hJ.val HOK 32 _ (by kernel_rfl) rfl (Below.refl _ _))
                    case o8ge_33 =>
                      intro LX V aX wX K hl hp hcl hf hJ hK
                      have t55 := hf.in (i := 32) (d := 55) (by kernel_rfl) (hp 32 (by kernel_rfl)) (hJ.vals 32 _ rfl (hp 32 (by kernel_rfl)))
                      have t43 := hf.in (i := 20) (d := 43) (by kernel_rfl) (hp 20 (by kernel_rfl)) (hJ.vals 20 _ rfl (hp 20 (by kernel_rfl)))
                      obtain ⟨⟨c0, c1⟩, ⟨x0, x1, x2, x3⟩, ⟨y0, y1, y2, y3⟩⟩ := HCE.out wX hJ.below
                      rw [if_pos (wanted_of rfl rfl t43)]
                      go_simp
                      exact hK _ _ (hJ.val HOK 33 _ (by kernel_rfl) rfl (Below.refl _ _))
                    case o8ge_34 =>
                      intro LX V aX wX K hl hp hcl hf hJ hK
                      have t52 := hf.in (i := 29) (d := 52) (by kernel_rfl) (hp 29 (by kernel_rfl)) (hJ.vals 29 _ rfl (hp 29 (by kernel_rfl)))
                      have t56 := hf.in (i := 33) (d := 56) (by kernel_rfl) (hp 33 (by kernel_rfl)) (hJ.vals 33 _ rfl (hp 33 (by kernel_rfl)))
                      have t43 := hf.in (i := 20) (d := 43) (by kernel_rfl) (hp 20 (by kernel_rfl)) (hJ.vals 20 _ rfl (hp 20 (by kernel_rfl)))
                      obtain ⟨⟨u1, u0⟩, u2, u3, u4, u5, u6, u7, u8, u9, u10⟩ := HNUM.out
                      rw [if_pos (wanted_of rfl rfl t43)]
                      go_simp
                      exact hK _ _ (hJ.val HOK 34 _ (by kernel_rfl) rfl (Below.refl _ _))
                    case o8ge_35 =>
                      intro LX V aX wX K hl hp hcl hf hJ hK
                      have t57 := hf.in (i := 34) (d := 57) (by kernel_rfl) (hp 34 (by kernel_rfl)) (hJ.vals 34 _ rfl (hp 34 (by kernel_rfl)))
                      have t43 := hf.in (i := 20) (d := 43) (by kernel_rfl) (hp 20 (by kernel_rfl)) (hJ.vals 20 _ rfl (hp 20 (by kernel_rfl)))
                      obtain ⟨⟨c0, c1⟩, ⟨x0, x1, x2, x3⟩, ⟨y0, y1, y2, y3⟩⟩ := HCE.out wX hJ.below
                      rw [if_pos (wanted_of rfl rfl t43)]
                      go_simp
                      exact hK _ _ (hJ.val HOK 35 _ (by kernel_rfl) rfl (Below.refl _ _))
                    case o8ge_36 =>
                      intro LX V aX wX K hl hp hcl hf hJ hK
                      have t2 : aX.tmps[2]? = some (.int .i64 (lev : Int)) := hf.old (by kernel_rfl) rfl
                      have t43 := hf.in (i := 20) (d := 43) (by kernel_rfl) (hp 20 (by kernel_rfl)) (hJ.vals 20 _ rfl (hp 20 (by kernel_rfl)))
                      rw [if_pos (wanted_of rfl rfl t43)]
                      go_simp
                      exact hK _ _ (hJ.val HOK 36 _ (by kernel_rfl) rfl (Below.refl _ _))
                    case o8ge_37 =>
                      intro LX V aX wX K hl hp hcl hf hJ hK
                      have t51 := hf.in (i := 28) (d := 51) (by kernel_rfl) (hp 28 (by kernel_rfl)) (hJ.vals 28 _ rfl (hp 28 (by kernel_rfl)))
                      have t58 := hf.in (i := 35) (d := 58) (by kernel_rfl) (hp 35 (by kernel_rfl)) (hJ.vals 35 _ rfl (hp 35 (by kernel_rfl)))
                      have t59 := hf.in (i := 36) (d := 59) (by kernel_rfl) (hp 36 (by kernel_rfl)) (hJ.vals 36 _ rfl (hp 36 (by kernel_rfl)))
                      have t43 := hf.in (i := 20) (d := 43) (by kernel_rfl) (hp 20 (by kernel_rfl)) (hJ.vals 20 _ rfl (hp 20 (by kernel_rfl)))
                      rw [if_pos (wanted_of rfl rfl t43)]
                      go_simp
                      refine (HA2.out _ hJ.below).mono ?_
                      rintro e wA ⟨rfl, hbA⟩
                      exact hK _ _ (hJ.val HOK 37 _ (by kernel_rfl) rfl (hbA))
                    case o8ge_38 =>
                      intro LX V aX wX K hl hp hcl hf hJ hK
                      have t60 := hf.in (i := 37) (d := 60) (by kernel_rfl) (hp 37 (by kernel_rfl)) (hJ.vals 37 _ rfl (hp 37 (by kernel_rfl)))
                      have t43 := hf.in (i := 20) (d := 43) (by kernel_rfl) (hp 20 (by kernel_rfl)) (hJ.vals 20 _ rfl (hp 20 (by kernel_rfl)))
                      rw [if_pos (wanted_of rfl rfl t43)]
                      go_simp
                      exact hK _ _ (hJ.val HOK 38 _ (by kernel_rfl) rfl (Below.refl _ _))
                    case o8ge_39 =>
                      intro LX V aX wX K hl hp hcl hf hJ hK
                      have t61 := hf.in (i := 38) (d := 61) (by kernel_rfl) (hp 38 (by kernel_rfl)) (hJ.vals 38 _ rfl (hp 38 (by kernel_rfl)))
                      have t43 := hf.in (i := 20) (d := 43) (by kernel_rfl) (hp 20 (by kernel_rfl)) (hJ.vals 20 _ rfl (hp 20 (by kernel_rfl)))
                      rw [if_pos (wanted_of rfl rfl t43)]
                      go_simp
                      exact hK _ _ (hJ.val HOK 39 _ (by kernel_rfl) rfl (Below.refl _ _))
                    case o8ge_40 =>
                      intro LX V aX wX K hl hp hcl hf hJ hK
                      have t1 : aX.tmps[1]? = some (.slice (some ⟨pb, pf, none⟩) m pc) := hf.old (by kernel_rfl) rfl
                      have t62 := hf.in (i := 39) (d := 62) (by kernel_rfl) (hp 39 (by kernel_rfl)) (hJ.vals 39 _ rfl (hp 39 (by kernel_rfl)))
                      rw [if_pos (wanted_of rfl rfl t62)]
                      go_simp
                      exact hK _ _ (hJ.val HOK 40 _ (by kernel_rfl) rfl (Below.refl _ _))
                    case o8ge_41 =>
                      intro LX V aX wX K hl hp hcl hf hJ hK
                      have t8 : aX.tmps[8]? = some (.int .i64 (i : Int)) := hf.old (by kernel_rfl) rfl
                      have t62 := hf.in (i := 39) (d := 62) (by kernel_rfl) (hp 39 (by kernel_rfl)) (hJ.vals 39 _ rfl (hp 39 (by kernel_rfl)))
                      rw [if_pos (wanted_of rfl rfl t62)]
                      go_simp
                      exact hK _ _ (hJ.val HOK 41 _ (by kernel_rfl) rfl (Below.refl _ _))
                    case o8ge_42 =>
                      intro LX V aX wX K hl hp hcl hf hJ hK
                      have t63 := hf.in (i := 40) (d := 63) (by kernel_rfl) (hp 40 (by kernel_rfl)) (hJ.vals 40 _ rfl (hp 40 (by kernel_rfl)))
                      have t64 := hf.in (i := 41) (d := 64) (by kernel_rfl) (hp 41 (by kernel_rfl)) (hJ.vals 41 _ rfl (hp 41 (by kernel_rfl)))
                      have t62 := hf.in (i := 39) (d := 62) (by kernel_rfl) (hp 39 (by kernel_rfl)) (hJ.vals 39 _ rfl (hp 39 (by kernel_rfl)))
                      obtain ⟨⟨u1, u0⟩, u2, u3, u4, u5, u6, u7, u8, u9, u10⟩ := HNUM.out
                      rw [if_pos (wanted_of rfl rfl t62)]
                      go_simp
                      exact hK _ _ (hJ.val HOK 42 _ (by kernel_rfl) rfl (Below.refl _ _))
                    case o8ge_43 =>
                      intro LX V aX wX K hl hp hcl hf hJ hK
                      have t65 := hf.in (i := 42) (d := 65) (by kernel_rfl) (hp 42 (by kernel_rfl)) (hJ.vals 42 _ rfl (hp 42 (by kernel_rfl)))
                      have t62 := hf.in (i := 39) (d := 62) (by kernel_rfl) (hp 39 (by kernel_rfl)) (hJ.vals 39 _ rfl (hp 39 (by kernel_rfl)))
                      obtain ⟨⟨c0, c1⟩, ⟨x0, x1, x2, x3⟩, ⟨y0, y1, y2, y3⟩⟩ := HCE.out wX hJ.below
                      rw [if_pos (wanted_of rfl rfl t62)]
                      go_simp
                      exact hK _ _ (hJ.val HOK 43 _ (by kernel_rfl) rfl (Below.refl _ _))
                    case o8ge_44 =>
                      intro LX V aX wX K hl hp hcl hf hJ hK
                      have t7 : aX.tmps[7]? = some (.slice (some ⟨bo, oo, none⟩) no co) := hf.old (by kernel_rfl) rfl
                      have t62 := hf.in (i := 39) (d := 62) (by kernel_rfl) (hp 39 (by kernel_rfl)) (hJ.vals 39 _ rfl (hp 39 (by kernel_rfl)))
                      rw [if_pos (wanted_of rfl rfl t62)]
                      go_simp
                      exact hK _ _ (hJ.val HOK 44 _ (by kernel_rfl) rfl (Below.refl _ _))
                    case o8ge_45 =>
                      intro LX V aX wX K hl hp hcl hf hJ hK
                      have t9 : aX.tmps[9]? = some (.int .i64 (k : Int)) := hf.old (by kernel_rfl) rfl
                      have t62 := hf.in (i := 39) (d := 62) (by kernel_rfl) (hp 39 (by kernel_rfl)) (hJ.vals 39 _ rfl (hp 39 (by kernel_rfl)))
                      rw [if_pos (wanted_of rfl rfl t62)]
                      go_simp
                      exact hK _ _ (hJ.val HOK 45 _ (by kernel_rfl) rfl (Below.refl _ _))
                    case o8ge_46 =>
                      intro LX V aX wX K hl hp hcl hf hJ hK
                      have t68 := hf.in (i := 45) (d := 68) (by kernel_rfl) (hp 45 (by kernel_rfl)) (hJ.vals 45 _ rfl (hp 45 (by kernel_rfl)))
                      have t62 := hf.in (i := 39) (d := 62) (by kernel_rfl) (hp 39 (by kernel_rfl)) (hJ.vals 39 _ rfl (hp 39 (by kernel_rfl)))
                      obtain ⟨⟨u1, u0⟩, u2, u3, u4, u5, u6, u7, u8, u9, u10⟩ := HNUM.out
                      rw [if_pos (wanted_of rfl rfl t62)]
                      go_simp
                      exact hK _ _ (hJ.val HOK 46 _ (by kernel_rfl) rfl (Below.refl _ _))
                    case o8ge_47 =>
                      intro LX V aX wX K hl hp hcl hf hJ hK
                      have t67 := hf.in (i := 44) (d := 67) (by kernel_rfl) (hp 44 (by kernel_rfl)) (hJ.vals 44 _ rfl (hp 44 (by kernel_rfl)))
                      have t69 := hf.in (i := 46) (d := 69) (by kernel_rfl) (hp 46 (by kernel_rfl)) (hJ.vals 46 _ rfl (hp 46 (by kernel_rfl)))
                      have t62 := hf.in (i := 39) (d := 62) (by kernel_rfl) (hp 39 (by kernel_rfl)) (hJ.vals 39 _ rfl (hp 39 (by kernel_rfl)))
                      obtain ⟨⟨u1, u0⟩, u2, u3, u4, u5, u6, u7, u8, u9, u10⟩ := HNUM.out
                      rw [if_pos (wanted_of rfl rfl t62)]
                      go_simp
                      exact hK _ _ (hJ.val HOK 47 _ (by kernel_rfl) rfl (Below.refl _ _))
                    case o8ge_48 =>
                      intro LX V aX wX K hl hp hcl hf hJ hK
                      have t70 := hf.in (i := 47) (d := 70) (by kernel_rfl) (hp 47 (by kernel_rfl)) (hJ.vals 47 _ rfl (hp 47 (by kernel_rfl)))
                      have t62 := hf.in (i := 39) (d := 62) (by kernel_rfl) (hp 39 (by kernel_rfl)) (hJ.vals 39 _ rfl (hp 39 (by kernel_rfl)))
                      obtain ⟨⟨c0, c1⟩, ⟨x0, x1, x2, x3⟩, ⟨y0, y1, y2, y3⟩⟩ := HCE.out wX hJ.below
                      rw [if_pos (wanted_of rfl rfl t62)]
                      go_simp
                      exact hK _ _ (hJ.val HOK 48 _ (by kernel_rfl) rfl (Below.refl _ _))
                    case o8ge_49 =>
                      intro LX V aX wX K hl hp hcl hf hJ hK
                      have t66 := hf.in (i := 43) (d := 66) (by kernel_rfl) (hp 43 (by kernel_rfl)) (hJ.vals 43 _ rfl (hp 43 (by kernel_rfl)))
                      have t71 := hf.in (i := 48) (d := 71) (by kernel_rfl) (hp 48 (by kernel_rfl)) (hJ.vals 48 _ rfl (hp 48 (by kernel_rfl)))
                      have t62 := hf.in (i := 39) (d := 62) (by kernel_rfl) (hp 39 (by kernel_rfl)) (hJ.vals 39 _ rfl (hp 39 (by kernel_rfl)))
                      have hr0 := HR3.out
                      have hr3 : decide ((xn : Int) < (yn : Int)) = false := by simp; omega
                      have hr4 : decide (xn < yn) = false := by simp; omega
                      clear hr0
                      rw [if_pos (wanted_of rfl rfl t62)]
                      go_simp
                      exact hK _ _ (hJ.val HOK 49 _ (by kernel_rfl) rfl (Below.refl _ _))
                    case o8ge_50 =>
                      intro LX V aX wX K hl hp hcl hf hJ hK
                      have t62 := hf.in (i := 39) (d := 62) (by kernel_rfl) (hp 39 (by kernel_rfl)) (hJ.vals 39 _ rfl (hp 39 (by kernel_rfl)))
                      have t72 := hf.in (i := 49) (d := 72) (by kernel_rfl) (hp 49 (by kernel_rfl)) (hJ.vals 49 _ rfl (hp 49 (by kernel_rfl)))
                      have t43 := hf.in (i := 20) (d := 43) (by kernel_rfl) (hp 20 (by kernel_rfl)) (hJ.vals 20 _ rfl (hp 20 (by kernel_rfl)))
                      rw [if_pos (wanted_of rfl rfl t43)]
                      go_simp
                      exact hK _ _ (hJ.val HOK 50 _ (by kernel_rfl) rfl (Below.refl _ _))
                    case o8ge_51 =>
                      intro LX V aX wX K hl hp hcl hf hJ hK
                      have t43 := hf.in (i := 20) (d := 43) (by kernel_rfl) (hp 20 (by kernel_rfl)) (hJ.vals 20 _ rfl (hp 20 (by kernel_rfl)))
                      have t73 := hf.in (i := 50) (d := 73) (by kernel_rfl) (hp 50 (by kernel_rfl)) (hJ.vals 50 _ rfl (hp 50 (by kernel_rfl)))
                      have t25 := hf.in (i := 2) (d := 25) (by kernel_rfl) (hp 2 (by kernel_rfl)) (hJ.vals 2 _ rfl (hp 2 (by kernel_rfl)))
                      rw [if_pos (wanted_of rfl rfl t25)]
                      go_simp
                      exact hK _ _ (hJ.val HOK 51 _ (by kernel_rfl) rfl (Below.refl _ _))
                    case o8ge_52 =>
                      intro LX V aX wX K hl hp hcl hf hJ hK
                      have t25 := hf.in (i := 2) (d := 25) (by kernel_rfl) (hp 2 (by kernel_rfl)) (hJ.vals 2 _ rfl (hp 2 (by kernel_rfl)))
                      have t74 := hf.in (i := 51) (d := 74) (by kernel_rfl) (hp 51 (by kernel_rfl)) (hJ.vals 51 _ rfl (hp 51 (by kernel_rfl)))
                      rw [if_pos (by rfl)]
                      go_simp
                      exact hK _ _ (hJ.val HOK 52 _ (by kernel_rfl) rfl (Below.refl _ _))
                  intro V wZ hJ
                  have hv := hJ.vals 52 _ rfl (by kernel_rfl)
                  have HBY := Lib.hid hJ.below
                  simp only [puts, Act.put, List.setIfInBounds_toArray, List.set_cons_zero, List.set_cons_succ]
                  rw [hv]
                  clear hJ HOK hv
                  obtain ⟨wy, hwy⟩ : ∃ wy, wy = wZ := ⟨_, rfl⟩
                  rw [← hwy] at HBY ⊢
                  clear hwy
                  have HB2 : Hid (Below w1.heap.size w1 wy) := Lib.hid (hbk.out.trans (HBY.out.mono hbk.out.size))
                  have HTK : Hid (∀ wX, Below wy.heap.size wy wX → IsInts wX (some ⟨bo, oo, none⟩) k co (S.take k)) := Lib.hid (fun wX hX => (HIX.out.front HKN.out).later (HB2.out.trans (hX.mono HB2.out.size)) (Nat.le_refl _))
                  have HDR : Hid (∀ wX, Below wy.heap.size wy wX → IsInts wX (if co = k then some ⟨bo, oo, none⟩ else some ⟨bo, oo + k, none⟩) (no - k) (co - k) (S.drop k)) := Lib.hid (fun wX hX => (HIX.out.back HKN.out).later (HB2.out.trans (hX.mono HB2.out.size)) (Nat.le_refl _))
                  have HPC : Hid (∀ wX, Below wy.heap.size wy wX → wX.cell? ⟨pb, pf + i, none⟩ = some (.int .i64 (xn : Int))) := Lib.hid (fun wX hX => GPC1.out wX (HB2.out.trans (hX.mono HB2.out.size)))
                  have HLN1 : Hid (([] : List Int).length + k ≤ 1000000000) := Lib.hid (by have := HKN.out; simp; omega)
                  have HLN2 : Hid (([] ++ S.take k : List Int).length + [(xn : Int)].length ≤ 1000000000) := Lib.hid (by have := HNO.out; simp; omega)
                  have HLN3 : Hid (([] ++ S.take k ++ [(xn : Int)] : List Int).length + (no - k) ≤ 1000000000) := Lib.hid (by have := HNO.out; simp; omega)
                  go_wp2_with fail
                  have HOK : ∀ r ∈ ([⟨0, 0, 0, some 4, [], fun V w => OwnI w wy.heap.size (V 0) ([])⟩, ⟨1, 4, 4, some 10, [], fun V w => OwnI w wy.heap.size (V 4) ([] ++ S.take k)⟩, ⟨2, 9, 9, none, [], fun V w => OwnI w wy.heap.size (V 9) ([(xn : Int)])⟩, ⟨3, 10, 10, some 14, [], fun V w => OwnI w wy.heap.size (V 10) ([] ++ S.take k ++ [(xn : Int)])⟩, ⟨4, 14, 14, some 15, [], fun V w => OwnI w wy.heap.size (V 14) ([] ++ S.take k ++ [(xn : Int)] ++ S.drop k)⟩, ⟨5, 15, 15, none, [], fun V w => OwnI w wy.heap.size (V 15) ([] ++ S.take k ++ [(xn : Int)] ++ S.drop k)⟩] : List Resr), ResOk wy r := by
                    intro r hr
                    simp only [List.mem_cons, List.not_mem_nil, or_false] at hr
                    rcases hr with rfl | rfl | rfl | rfl | rfl | rfl
                    · exact resInts_ok _
                    · exact resInts_ok _
                    · exact resInts_ok _
                    · exact resInts_ok _
                    · exact resInts_ok _
                    · exact resInts_ok _
                  refine wp_region_J (s := [(78, 0), (79, 1), (80, 2), (81, 3), (82, 4), (83, 5), (84, 6), (85, 7), (86, 8), (87, 9), (88, 10), (89, 11), (90, 12), (91, 13), (92, 14), (7, 15)]) (by kernel_rfl) (ResJ wy (fun iX => match iX with | 1 => some (.slice (some ⟨bo, oo, none⟩) no co) | 2 => some (.int .i64 (k : Int)) | 3 => some (.slice (some ⟨bo, oo, none⟩) k co) | 5 => some (.slice (some ⟨pb, pf, none⟩) m pc) | 6 => some (.int .i64 (i : Int)) | 7 => some (.pointer (some ⟨pb, pf + i, none⟩)) | 8 => some (.int .i64 (xn : Int)) | 11 => some (.slice (some ⟨bo, oo, none⟩) no co) | 12 => some (.int .i64 (k : Int)) | 13 => some (.slice (if co = k then some ⟨bo, oo, none⟩ else some ⟨bo, oo + k, none⟩) (no - k) (co - k)) | _ => none) [⟨0, 0, 0, some 4, [], fun V w => OwnI w wy.heap.size (V 0) ([])⟩, ⟨1, 4, 4, some 10, [], fun V w => OwnI w wy.heap.size (V 4) ([] ++ S.take k)⟩, ⟨2, 9, 9, none, [], fun V w => OwnI w wy.heap.size (V 9) ([(xn : Int)])⟩, ⟨3, 10, 10, some 14, [], fun V w => OwnI w wy.heap.size (V 10) ([] ++ S.take k ++ [(xn : Int)])⟩, ⟨4, 14, 14, some 15, [], fun V w => OwnI w wy.heap.size (V 14) ([] ++ S.take k ++ [(xn : Int)] ++ S.drop k)⟩, ⟨5, 15, 15, none, [], fun V w => OwnI w wy.heap.size (V 15) ([] ++ S.take k ++ [(xn : Int)] ++ S.drop k)⟩]) (by kernel_rfl) (by kernel_rfl) (by kernel_rfl) (by kernel_rfl) (fun _ => undef) ?start10a ?step10a ?done10a
                  case start10a => exact ResJ.start ((Below.refl _ _).drew) (by kernel_rfl)
                  case step10a =>
                    refine ⟨?o10a_0, ?o10a_1, ?o10a_2, ?o10a_3, ?o10a_4, ?o10a_5, ?o10a_6, ?o10a_7, ?o10a_8, ?o10a_9, ?o10a_10, ?o10a_11, ?o10a_12, ?o10a_13, ?o10a_14, ?o10a_15, trivial⟩
                    case o10a_0 =>
                      intro LX V aX wX K hl hp hcl hf hJ hK
                      rw [if_pos (by rfl)]
                      go_simp
                      exact hK _ _ (hJ.step HOK 0 _ hl (by kernel_rfl) trivial none (World.grownBy_alloc _ _ _) (.inl rfl) (new_one (by kernel_rfl) ⟨0, 0, 0, some 4, [], fun V w => OwnI w wy.heap.size (V 0) ([])⟩ (List.mem_of_getElem? (i := 0) rfl) rfl ⟨(fun j hj => by rcases hj with rfl | hj; exact .inl rfl; cases hj), by (try simp only); rw [upd_at]; exact OwnI.lit wX _ hJ.below.size [] (by simp), fun g hg => .inl (by rw [upd_at] at hg; cases hg; exact Nat.le_refl _)⟩))
                    case o10a_1 =>
                      intro LX V aX wX K hl hp hcl hf hJ hK
                      have t7 := hf.still (t := 7) (v := .slice (some ⟨bo, oo, none⟩) no co) 15 (by kernel_rfl) (hcl.no 15 (by kernel_rfl) hl) rfl
                      rw [if_pos (by rfl)]
                      go_simp
                      exact hK _ _ (hJ.val HOK 1 _ hl (by kernel_rfl) (by kernel_rfl) rfl (Below.refl _ _))
                    case o10a_2 =>
                      intro LX V aX wX K hl hp hcl hf hJ hK
                      have t9 : aX.tmps[9]? = some (.int .i64 (k : Int)) := hf.old (by kernel_rfl) rfl
                      rw [if_pos (by rfl)]
                      go_simp
                      exact hK _ _ (hJ.val HOK 2 _ hl (by kernel_rfl) (by kernel_rfl) rfl (Below.refl _ _))
                    case o10a_3 =>
                      intro LX V aX wX K hl hp hcl hf hJ hK
                      have t79 := hf.in (i := 1) (d := 79) (by kernel_rfl) (hp 1 (by kernel_rfl)) (hJ.vals 1 _ rfl (hp 1 (by kernel_rfl)))
                      have t80 := hf.in (i := 2) (d := 80) (by kernel_rfl) (hp 2 (by kernel_rfl)) (hJ.vals 2 _ rfl (hp 2 (by kernel_rfl)))
                      have hk5 := HK5.out
                      obtain ⟨hk6, hk7, hk8, hk9, hk10, hk11⟩ := hk5
                      rw [if_pos (by rfl)]
                      go_simp
                      exact hK _ _ (hJ.val HOK 3 _ hl (by kernel_rfl) (by kernel_rfl) rfl (Below.refl _ _))
                    case o10a_4 =>
                      intro LX V aX wX K hl hp hcl hf hJ hK
                      have t78 := hf.in (i := 0) (d := 78) (by kernel_rfl) (hp 0 (by kernel_rfl)) rfl
                      have t81 := hf.in (i := 3) (d := 81) (by kernel_rfl) (hp 3 (by kernel_rfl)) (hJ.vals 3 _ rfl (hp 3 (by kernel_rfl)))
                      rw [if_pos (by rfl)]
                      have hq0 := hJ.at ⟨0, 0, 0, some 4, [], fun V w => OwnI w wy.heap.size (V 0) ([])⟩ (List.mem_of_getElem? (i := 0) rfl) (lor (hp 0 (by kernel_rfl))) hl
                      refine opwp_append_intsF _ _ rfl wy.heap.size (V 0) ([]) (eval_tmp t78) hq0 _ _ _ (S.take k) (eval_tmp t81) (HTK.out _ hJ.below) (HLN1.out) hJ.below.size ?_
                      intro v' w' hown2 hgr hfr
                      exact hK _ _ (hJ.step HOK 4 v' hl (by kernel_rfl) trivial (V 0).ownBlock hgr (.inr ⟨⟨0, 0, 0, some 4, [], fun V w => OwnI w wy.heap.size (V 0) ([])⟩, List.mem_of_getElem? (i := 0) rfl, rfl, lor (hp 0 (by kernel_rfl)), by (try simp only); exact OwnI.any hq0⟩) (new_one (by kernel_rfl) ⟨1, 4, 4, some 10, [], fun V w => OwnI w wy.heap.size (V 4) ([] ++ S.take k)⟩ (List.mem_of_getElem? (i := 1) rfl) rfl ⟨(fun j hj => by rcases hj with rfl | hj; exact .inl rfl; cases hj), by (try simp only); rw [upd_at]; exact hown2, fun g hg => by rw [upd_at, OwnI.any hown2] at hg; exact hfr g hg⟩))
                    case o10a_5 =>
                      intro LX V aX wX K hl hp hcl hf hJ hK
                      have t1 : aX.tmps[1]? = some (.slice (some ⟨pb, pf, none⟩) m pc) := hf.old (by kernel_rfl) rfl
                      rw [if_pos (by rfl)]
                      go_simp
                      exact hK _ _ (hJ.val HOK 5 _ hl (by kernel_rfl) (by kernel_rfl) rfl (Below.refl _ _))
                    case o10a_6 =>
                      intro LX V aX wX K hl hp hcl hf hJ hK
                      have t8 : aX.tmps[8]? = some (.int .i64 (i : Int)) := hf.old (by kernel_rfl) rfl
                      rw [if_pos (by rfl)]
                      go_simp
                      exact hK _ _ (hJ.val HOK 6 _ hl (by kernel_rfl) (by kernel_rfl) rfl (Below.refl _ _))
                    case o10a_7 =>
                      intro LX V aX wX K hl hp hcl hf hJ hK
                      have t83 := hf.in (i := 5) (d := 83) (by kernel_rfl) (hp 5 (by kernel_rfl)) (hJ.vals 5 _ rfl (hp 5 (by kernel_rfl)))
                      have t84 := hf.in (i := 6) (d := 84) (by kernel_rfl) (hp 6 (by kernel_rfl)) (hJ.vals 6 _ rfl (hp 6 (by kernel_rfl)))
                      obtain ⟨u2, u3⟩ := HPI.out
                      rw [if_pos (by rfl)]
                      go_simp
                      exact hK _ _ (hJ.val HOK 7 _ hl (by kernel_rfl) (by kernel_rfl) rfl (Below.refl _ _))
                    case o10a_8 =>
                      intro LX V aX wX K hl hp hcl hf hJ hK
                      have t85 := hf.in (i := 7) (d := 85) (by kernel_rfl) (hp 7 (by kernel_rfl)) (hJ.vals 7 _ rfl (hp 7 (by kernel_rfl)))
                      have c0 := HPC.out wX hJ.below
                      rw [if_pos (by rfl)]
                      go_simp
                      exact hK _ _ (hJ.val HOK 8 _ hl (by kernel_rfl) (by kernel_rfl) rfl (Below.refl _ _))
                    case o10a_9 =>
                      intro LX V aX wX K hl hp hcl hf hJ hK
                      have t86 := hf.in (i := 8) (d := 86) (by kernel_rfl) (hp 8 (by kernel_rfl)) (hJ.vals 8 _ rfl (hp 8 (by kernel_rfl)))
                      rw [if_pos (by rfl)]
                      go_simp
                      exact hK _ _ (hJ.step HOK 9 _ hl (by kernel_rfl) trivial none (World.grownBy_alloc _ _ _) (.inl rfl) (new_one (by kernel_rfl) ⟨2, 9, 9, none, [], fun V w => OwnI w wy.heap.size (V 9) ([(xn : Int)])⟩ (List.mem_of_getElem? (i := 2) rfl) rfl ⟨(fun j hj => by rcases hj with rfl | hj; exact .inl rfl; cases hj), by (try simp only); rw [upd_at]; exact OwnI.lit wX _ hJ.below.size [(xn : Int)] (by simp), fun g hg => .inl (by rw [upd_at] at hg; cases hg; exact Nat.le_refl _)⟩))
                    case o10a_10 =>
                      intro LX V aX wX K hl hp hcl hf hJ hK
                      have t82 := hf.in (i := 4) (d := 82) (by kernel_rfl) (hp 4 (by kernel_rfl)) rfl
                      have t87 := hf.in (i := 9) (d := 87) (by kernel_rfl) (hp 9 (by kernel_rfl)) rfl
                      rw [if_pos (by rfl)]
                      have hq9 := hJ.at ⟨2, 9, 9, none, [], fun V w => OwnI w wy.heap.size (V 9) ([(xn : Int)])⟩ (List.mem_of_getElem? (i := 2) rfl) (lor (hp 9 (by kernel_rfl))) trivial
                      obtain ⟨a87, c87, hv87, hpts⟩ := OwnI.ints hq9
                      have hq0 := hJ.at ⟨1, 4, 4, some 10, [], fun V w => OwnI w wy.heap.size (V 4) ([] ++ S.take k)⟩ (List.mem_of_getElem? (i := 1) rfl) (lor (hp 4 (by kernel_rfl))) hl
                      refine opwp_append_intsF _ _ rfl wy.heap.size (V 4) ([] ++ S.take k) (eval_tmp t82) hq0 _ _ _ ([(xn : Int)]) (by rw [eval_tmp t87]; exact hv87) (hpts) (HLN2.out) hJ.below.size ?_
                      intro v' w' hown2 hgr hfr
                      exact hK _ _ (hJ.step HOK 10 v' hl (by kernel_rfl) trivial (V 4).ownBlock hgr (.inr ⟨⟨1, 4, 4, some 10, [], fun V w => OwnI w wy.heap.size (V 4) ([] ++ S.take k)⟩, List.mem_of_getElem? (i := 1) rfl, rfl, lor (hp 4 (by kernel_rfl)), by (try simp only); exact OwnI.any hq0⟩) (new_one (by kernel_rfl) ⟨3, 10, 10, some 14, [], fun V w => OwnI w wy.heap.size (V 10) ([] ++ S.take k ++ [(xn : Int)])⟩ (List.mem_of_getElem? (i := 3) rfl) rfl ⟨(fun j hj => by rcases hj with rfl | hj; exact .inl rfl; cases hj), by (try simp only); rw [upd_at]; exact hown2, fun g hg => by rw [upd_at, OwnI.any hown2] at hg; exact hfr g hg⟩))
                    case o10a_11 =>
                      intro LX V aX wX K hl hp hcl hf hJ hK
                      have t7 := hf.still (t := 7) (v := .slice (some ⟨bo, oo, none⟩) no co) 15 (by kernel_rfl) (hcl.no 15 (by kernel_rfl) hl) rfl
                      rw [if_pos (by rfl)]
                      go_simp
                      exact hK _ _ (hJ.val HOK 11 _ hl (by kernel_rfl) (by kernel_rfl) rfl (Below.refl _ _))
                    case o10a_12 =>
                      intro LX V aX wX K hl hp hcl hf hJ hK
                      have t9 : aX.tmps[9]? = some (.int .i64 (k : Int)) := hf.old (by kernel_rfl) rfl
                      rw [if_pos (by rfl)]
                      go_simp
                      exact hK _ _ (hJ.val HOK 12 _ hl (by kernel_rfl) (by kernel_rfl) rfl (Below.refl _ _))
                    case o10a_13 =>
                      intro LX V aX wX K hl hp hcl hf hJ hK
                      have t89 := hf.in (i := 11) (d := 89) (by kernel_rfl) (hp 11 (by kernel_rfl)) (hJ.vals 11 _ rfl (hp 11 (by kernel_rfl)))
                      have t90 := hf.in (i := 12) (d := 90) (by kernel_rfl) (hp 12 (by kernel_rfl)) (hJ.vals 12 _ rfl (hp 12 (by kernel_rfl)))
                      have hk5 := HK5.out
                      obtain ⟨hk6, hk7, hk8, hk9, hk10, hk11⟩ := hk5
                      rw [if_pos (by rfl)]
                      go_simp
                      exact hK _ _ (hJ.val HOK 13 _ hl (by kernel_rfl) (by kernel_rfl) rfl (Below.refl _ _))
                    case o10a_14 =>
                      intro LX V aX wX K hl hp hcl hf hJ hK
                      have t88 := hf.in (i := 10) (d := 88) (by kernel_rfl) (hp 10 (by kernel_rfl)) rfl
                      have t91 := hf.in (i := 13) (d := 91) (by kernel_rfl) (hp 13 (by kernel_rfl)) (hJ.vals 13 _ rfl (hp 13 (by kernel_rfl)))
                      rw [if_pos (by rfl)]
                      have hq0 := hJ.at ⟨3, 10, 10, some 14, [], fun V w => OwnI w wy.heap.size (V 10) ([] ++ S.take k ++ [(xn : Int)])⟩ (List.mem_of_getElem? (i := 3) rfl) (lor (hp 10 (by kernel_rfl))) hl
                      refine opwp_append_intsF _ _ rfl wy.heap.size (V 10) ([] ++ S.take k ++ [(xn : Int)]) (eval_tmp t88) hq0 _ _ _ (S.drop k) (eval_tmp t91) (HDR.out _ hJ.below) (HLN3.out) hJ.below.size ?_
                      intro v' w' hown2 hgr hfr
                      exact hK _ _ (hJ.step HOK 14 v' hl (by kernel_rfl) trivial (V 10).ownBlock hgr (.inr ⟨⟨3, 10, 10, some 14, [], fun V w => OwnI w wy.heap.size (V 10) ([] ++ S.take k ++ [(xn : Int)])⟩, List.mem_of_getElem? (i := 3) rfl, rfl, lor (hp 10 (by kernel_rfl)), by (try simp only); exact OwnI.any hq0⟩) (new_one (by kernel_rfl) ⟨4, 14, 14, some 15, [], fun V w => OwnI w wy.heap.size (V 14) ([] ++ S.take k ++ [(xn : Int)] ++ S.drop k)⟩ (List.mem_of_getElem? (i := 4) rfl) rfl ⟨(fun j hj => by rcases hj with rfl | hj; exact .inl rfl; cases hj), by (try simp only); rw [upd_at]; exact hown2, fun g hg => by rw [upd_at, OwnI.any hown2] at hg; exact hfr g hg⟩))
                    case o10a_15 =>
                      intro LX V aX wX K hl hp hcl hf hJ hK
                      have t92 := hf.in (i := 14) (d := 92) (by kernel_rfl) (hp 14 (by kernel_rfl)) rfl
                      rw [if_pos (by rfl)]
                      have hq0 := hJ.at ⟨4, 14, 14, some 15, [], fun V w => OwnI w wy.heap.size (V 14) ([] ++ S.take k ++ [(xn : Int)] ++ S.drop k)⟩ (List.mem_of_getElem? (i := 4) rfl) (lor (hp 14 (by kernel_rfl))) hl
                      go_simp
                      exact hK _ _ (hJ.step HOK 15 _ hl (by kernel_rfl) trivial (ownAny (V 14)) ⟨rfl, rfl, rfl, Nat.le_refl _, fun _ _ _ => rfl⟩ (.inr ⟨⟨4, 14, 14, some 15, [], fun V w => OwnI w wy.heap.size (V 14) ([] ++ S.take k ++ [(xn : Int)] ++ S.drop k)⟩, List.mem_of_getElem? (i := 4) rfl, rfl, lor (hp 14 (by kernel_rfl)), rfl⟩) (new_one (by kernel_rfl) ⟨5, 15, 15, none, [], fun V w => OwnI w wy.heap.size (V 15) ([] ++ S.take k ++ [(xn : Int)] ++ S.drop k)⟩ (List.mem_of_getElem? (i := 5) rfl) rfl ⟨(fun j hj => by rcases hj with rfl | hj; exact .inl rfl; cases hj), by (try simp only); rw [upd_at]; exact hq0, fun g hg => .inr (by rw [upd_at] at hg; exact hg.symm ▸ rfl)⟩))
                  intro V wZ hJ
                  have hq := hJ.at ⟨5, 15, 15, none, [], fun V w => OwnI w wy.heap.size (V 15) ([] ++ S.take k ++ [(xn : Int)] ++ S.drop k)⟩ (List.mem_of_getElem? (i := 5) rfl) (by kernel_rfl) trivial
                  have HZ := Lib.hid (And.intro hq hJ.below)
                  simp only [puts, Act.put, List.setIfInBounds_toArray, List.set_cons_zero, List.set_cons_succ]
                  clear hJ hq HOK
                  go_wp2_with fail
                  go_roundw
                  case rel =>
                    have hb8 := HB1.out.trans (HB2.out.mono HB1.out.size)
                    exact ⟨i + 1, by omega, by go_num, Lib.hid ⟨_, HZ.out.1.base hb8.size, fun e => absurd e (by simp), HRS.out.1, HRS.out.2⟩, Lib.hid (hb8.trans (HZ.out.2.mono hb8.size))⟩
                  case measure => simp [intOf]; omega
              · have HRS := Lib.hid (HRES.out (fun h => absurd (HLT.out.2 h) (by simp)))
                go_wp2_with fail
                have HOK : ∀ f ∈ ([] : List Fct), FctOk f := by
                  intro f hf; cases hf
                refine wp_region_J (s := [(23, 0), (24, 1), (25, 2), (26, 3), (27, 4), (28, 5), (29, 6), (30, 7), (31, 8), (32, 9), (33, 10), (34, 11), (35, 12), (36, 13), (37, 14), (38, 15), (39, 16), (40, 17), (41, 18), (42, 19), (43, 20), (44, 21), (45, 22), (46, 23), (47, 24), (48, 25), (49, 26), (50, 27), (51, 28), (52, 29), (53, 30), (54, 31), (55, 32), (56, 33), (57, 34), (58, 35), (59, 36), (60, 37), (61, 38), (62, 39), (63, 40), (64, 41), (65, 42), (66, 43), (67, 44), (68, 45), (69, 46), (70, 47), (71, 48), (72, 49), (73, 50), (74, 51), (75, 52)]) (by kernel_rfl) (GrowJ wr (fun iX => match iX with | 0 => some (.int .i64 (k : Int)) | 1 => some (.bool true) | 2 => some (.bool true) | 3 => some (.slice (some ⟨bb, off, none⟩) n cap) | 4 => some (.slice (some ⟨pb, pf, none⟩) m pc) | 5 => some (.int .i64 (i : Int)) | 6 => some (.pointer (some ⟨pb, pf + i, none⟩)) | 7 => some (.int .i64 (xn : Int)) | 8 => some (.pointer (some ⟨bb, off + xn * 4, none⟩)) | 9 => some (.agg #[.int .i64 bx.1.x, .int .i64 bx.1.y, .int .i64 bx.2.x, .int .i64 bx.2.y]) | 10 => some (.slice (some ⟨bb, off, none⟩) n cap) | 11 => some (.slice (some ⟨bo, oo, none⟩) no co) | 12 => some (.int .i64 (k : Int)) | 13 => some (.int .i64 (k1 : Int)) | 14 => some (.pointer (some ⟨bo, oo + k1, none⟩)) | 15 => some (.int .i64 (yn : Int)) | 16 => some (.pointer (some ⟨bb, off + yn * 4, none⟩)) | 17 => some (.agg #[.int .i64 by_.1.x, .int .i64 by_.1.y, .int .i64 by_.2.x, .int .i64 by_.2.y]) | 18 => some (.int .i64 (lev : Int)) | 19 => some (.bool false) | 20 => some (.bool false) | 21 => some (.slice (some ⟨bb, off, none⟩) n cap) | 22 => some (.slice (some ⟨bo, oo, none⟩) no co) | 23 => some (.int .i64 (k : Int)) | 24 => some (.int .i64 (k1 : Int)) | 25 => some (.pointer (some ⟨bo, oo + k1, none⟩)) | 26 => some (.int .i64 (yn : Int)) | 27 => some (.pointer (some ⟨bb, off + yn * 4, none⟩)) | 28 => some (.agg #[.int .i64 by_.1.x, .int .i64 by_.1.y, .int .i64 by_.2.x, .int .i64 by_.2.y]) | 29 => some (.slice (some ⟨bb, off, none⟩) n cap) | 30 => some (.slice (some ⟨pb, pf, none⟩) m pc) | 31 => some (.int .i64 (i : Int)) | 32 => some (.pointer (some ⟨pb, pf + i, none⟩)) | 33 => some (.int .i64 (xn : Int)) | 34 => some (.pointer (some ⟨bb, off + xn * 4, none⟩)) | 35 => some (.agg #[.int .i64 bx.1.x, .int .i64 bx.1.y, .int .i64 bx.2.x, .int .i64 bx.2.y]) | 36 => some (.int .i64 (lev : Int)) | 37 => some (.bool true) | 38 => some (.bool false) | 39 => some (.bool false) | 40 => some (undef) | 41 => some (undef) | 42 => some (undef) | 43 => some (undef) | 44 => some (undef) | 45 => some (undef) | 46 => some (undef) | 47 => some (undef) | 48 => some (undef) | 49 => some (undef) | 50 => some (.bool false) | 51 => some (.bool false) | 52 => some (.bool false) | _ => none) []) (by kernel_rfl) (by kernel_rfl) (by kernel_rfl) (by kernel_rfl) (fun _ => undef) ?start8two ?step8two ?done8two
                case start8two => exact GrowJ.start ((Below.refl _ _).drew)
                case step8two =>
                  refine ⟨?o8two_0, ?o8two_1, ?o8two_2, ?o8two_3, ?o8two_4, ?o8two_5, ?o8two_6, ?o8two_7, ?o8two_8, ?o8two_9, ?o8two_10, ?o8two_11, ?o8two_12, ?o8two_13, ?o8two_14, ?o8two_15, ?o8two_16, ?o8two_17, ?o8two_18, ?o8two_19, ?o8two_20, ?o8two_21, ?o8two_22, ?o8two_23, ?o8two_24, ?o8two_25, ?o8two_26, ?o8two_27, ?o8two_28, ?o8two_29, ?o8two_30, ?o8two_31, ?o8two_32, ?o8two_33, ?o8two_34, ?o8two_35, ?o8two_36, ?o8two_37, ?o8two_38, ?o8two_39, ?o8two_40, ?o8two_41, ?o8two_42, ?o8two_43, ?o8two_44, ?o8two_45, ?o8two_46, ?o8two_47, ?o8two_48, ?o8two_49, ?o8two_50, ?o8two_51, ?o8two_52, trivial⟩
                  case o8two_0 =>
                    intro LX V aX wX K hl hp hcl hf hJ hK
                    have t9 : aX.tmps[9]? = some (.int .i64 (k : Int)) := hf.old (by kernel_rfl) rfl
                    rw [if_pos (by rfl)]
                    go_simp
                    exact hK _ _ (hJ.val HOK 0 _ (by kernel_rfl) rfl (Below.refl _ _))
                  case o8two_1 =>
                    intro LX V aX wX K hl hp hcl hf hJ hK
                    have t23 := hf.in (i := 0) (d := 23) (by kernel_rfl) (hp 0 (by kernel_rfl)) (hJ.vals 0 _ rfl (hp 0 (by kernel_rfl)))
                    obtain ⟨⟨u1, u0⟩, u2, u3, u4, u5, u6, u7, u8, u9, u10⟩ := HNUM.out
                    rw [if_pos (by rfl)]
                    go_simp
                    exact hK _ _ (hJ.val HOK 1 _ (by kernel_rfl) rfl (Below.refl _ _))
                  case o8two_2 =>
                    intro LX V aX wX K hl hp hcl hf hJ hK
                    have t24 := hf.in (i := 1) (d := 24) (by kernel_rfl) (hp 1 (by kernel_rfl)) (hJ.vals 1 _ rfl (hp 1 (by kernel_rfl)))
                    rw [if_pos (by rfl)]
                    go_simp
                    exact hK _ _ (hJ.val HOK 2 _ (by kernel_rfl) rfl (Below.refl _ _))
                  case o8two_3 =>
                    intro LX V aX wX K hl hp hcl hf hJ hK
                    have t0 : aX.tmps[0]? = some (.slice (some ⟨bb, off, none⟩) n cap) := hf.old (by kernel_rfl) rfl
                    have t25 := hf.in (i := 2) (d := 25) (by kernel_rfl) (hp 2 (by kernel_rfl)) (hJ.vals 2 _ rfl (hp 2 (by kernel_rfl)))
                    rw [if_pos (wanted_of rfl rfl t25)]
                    go_simp
                    exact hK _ _ (hJ.val HOK 3 _ (by kernel_rfl) rfl (Below.refl _ _))
                  case o8two_4 =>
                    intro LX V aX wX K hl hp hcl hf hJ hK
                    have t1 : aX.tmps[1]? = some (.slice (some ⟨pb, pf, none⟩) m pc) := hf.old (by kernel_rfl) rfl
                    have t25 := hf.in (i := 2) (d := 25) (by kernel_rfl) (hp 2 (by kernel_rfl)) (hJ.vals 2 _ rfl (hp 2 (by kernel_rfl)))
                    rw [if_pos (wanted_of rfl rfl t25)]
                    go_simp
                    exact hK _ _ (hJ.val HOK 4 _ (by kernel_rfl) rfl (Below.refl _ _))
                  case o8two_5 =>
                    intro LX V aX wX K hl hp hcl hf hJ hK
                    have t8 : aX.tmps[8]? = some (.int .i64 (i : Int)) := hf.old (by kernel_rfl) rfl
                    have t25 := hf.in (i := 2) (d := 25) (by kernel_rfl) (hp 2 (by kernel_rfl)) (hJ.vals 2 _ rfl (hp 2 (by kernel_rfl)))
                    rw [if_pos (wanted_of rfl rfl t25)]
                    go_simp
                    exact hK _ _ (hJ.val HOK 5 _ (by kernel_rfl) rfl (Below.refl _ _))
                  case o8two_6 =>
                    intro LX V aX wX K hl hp hcl hf hJ hK
                    have t27 := hf.in (i := 4) (d := 27) (by kernel_rfl) (hp 4 (by kernel_rfl)) (hJ.vals 4 _ rfl (hp 4 (by kernel_rfl)))
                    have t28 := hf.in (i := 5) (d := 28) (by kernel_rfl) (hp 5 (by kernel_rfl)) (hJ.vals 5 _ rfl (hp 5 (by kernel_rfl)))
                    have t25 := hf.in (i := 2) (d := 25) (by kernel_rfl) (hp 2 (by kernel_rfl)) (hJ.vals 2 _ rfl (hp 2 (by kernel_rfl)))
                    obtain ⟨⟨u1, u0⟩, u2, u3, u4, u5, u6, u7, u8, u9, u10⟩ := HNUM.out
                    rw [if_pos (wanted_of rfl rfl t25)]
                    go_simp
                    exact hK _ _ (hJ.val HOK 6 _ (by kernel_rfl) rfl (Below.refl _ _))
                  case o8two_7 =>
                    intro LX V aX wX K hl hp hcl hf hJ hK
                    have t29 := hf.in (i := 6) (d := 29) (by kernel_rfl) (hp 6 (by kernel_rfl)) (hJ.vals 6 _ rfl (hp 6 (by kernel_rfl)))
                    have t25 := hf.in (i := 2) (d := 25) (by kernel_rfl) (hp 2 (by kernel_rfl)) (hJ.vals 2 _ rfl (hp 2 (by kernel_rfl)))
                    obtain ⟨⟨c0, c1⟩, ⟨x0, x1, x2, x3⟩, ⟨y0, y1, y2, y3⟩⟩ := HCE.out wX hJ.below
                    rw [if_pos (wanted_of rfl rfl t25)]
                    go_simp
                    exact hK _ _ (hJ.val HOK 7 _ (by kernel_rfl) rfl (Below.refl _ _))
                  case o8two_8 =>
                    intro LX V aX wX K hl hp hcl hf hJ hK
                    have t26 := hf.in (i := 3) (d := 26) (by kernel_rfl) (hp 3 (by kernel_rfl)) (hJ.vals 3 _ rfl (hp 3 (by kernel_rfl)))
                    have t30 := hf.in (i := 7) (d := 30) (by kernel_rfl) (hp 7 (by kernel_rfl)) (hJ.vals 7 _ rfl (hp 7 (by kernel_rfl)))
                    have t25 := hf.in (i := 2) (d := 25) (by kernel_rfl) (hp 2 (by kernel_rfl)) (hJ.vals 2 _ rfl (hp 2 (by kernel_rfl)))
                    obtain ⟨⟨u1, u0⟩, u2, u3, u4, u5, u6, u7, u8, u9, u10⟩ := HNUM.out
                    rw [if_pos (wanted_of rfl rfl t25)]
                    go_simp
                    exact hK _ _ (hJ.val HOK 8 _ (by kernel_rfl) rfl (Below.refl _ _))
                  case o8two_9 =>
                    intro LX V aX wX K hl hp hcl hf hJ hK
                    have t31 := hf.in (i := 8) (d := 31) (by kernel_rfl) (hp 8 (by kernel_rfl)) (hJ.vals 8 _ rfl (hp 8 (by kernel_rfl)))
                    have t25 := hf.in (i := 2) (d := 25) (by kernel_rfl) (hp 2 (by kernel_rfl)) (hJ.vals 2 _ rfl (hp 2 (by kernel_rfl)))
                    obtain ⟨⟨c0, c1⟩, ⟨x0, x1, x2, x3⟩, ⟨y0, y1, y2, y3⟩⟩ := HCE.out wX hJ.below
                    rw [if_pos (wanted_of rfl rfl t25)]
                    go_simp
                    exact hK _ _ (hJ.val HOK 9 _ (by kernel_rfl) rfl (Below.refl _ _))
                  case o8two_10 =>
                    intro LX V aX wX K hl hp hcl hf hJ hK
                    have t0 : aX.tmps[0]? = some (.slice (some ⟨bb, off, none⟩) n cap) := hf.old (by kernel_rfl) rfl
                    have t25 := hf.in (i := 2) (d := 25) (by kernel_rfl) (hp 2 (by kernel_rfl)) (hJ.vals 2 _ rfl (hp 2 (by kernel_rfl)))
                    rw [if_pos (wanted_of rfl rfl t25)]
                    go_simp
                    exact hK _ _ (hJ.val HOK 10 _ (by kernel_rfl) rfl (Below.refl _ _))
                  case o8two_11 =>
                    intro LX V aX wX K hl hp hcl hf hJ hK
                    have t7 : aX.tmps[7]? = some (.slice (some ⟨bo, oo, none⟩) no co) := hf.old (by kernel_rfl) rfl
                    have t25 := hf.in (i := 2) (d := 25) (by kernel_rfl) (hp 2 (by kernel_rfl)) (hJ.vals 2 _ rfl (hp 2 (by kernel_rfl)))
                    rw [if_pos (wanted_of rfl rfl t25)]
                    go_simp
                    exact hK _ _ (hJ.val HOK 11 _ (by kernel_rfl) rfl (Below.refl _ _))
                  case o8two_12 =>
                    intro LX V aX wX K hl hp hcl hf hJ hK
                    have t9 : aX.tmps[9]? = some (.int .i64 (k : Int)) := hf.old (by kernel_rfl) rfl
                    have t25 := hf.in (i := 2) (d := 25) (by kernel_rfl) (hp 2 (by kernel_rfl)) (hJ.vals 2 _ rfl (hp 2 (by kernel_rfl)))
                    rw [if_pos (wanted_of rfl rfl t25)]
                    go_simp
                    exact hK _ _ (hJ.val HOK 12 _ (by kernel_rfl) rfl (Below.refl _ _))
                  case o8two_13 =>
                    intro LX V aX wX K hl hp hcl hf hJ hK
                    have t35 := hf.in (i := 12) (d := 35) (by kernel_rfl) (hp 12 (by kernel_rfl)) (hJ.vals 12 _ rfl (hp 12 (by kernel_rfl)))
                    have t25 := hf.in (i := 2) (d := 25) (by kernel_rfl) (hp 2 (by kernel_rfl)) (hJ.vals 2 _ rfl (hp 2 (by kernel_rfl)))
                    obtain ⟨⟨u1, u0⟩, u2, u3, u4, u5, u6, u7, u8, u9, u10⟩ := HNUM.out
                    rw [if_pos (wanted_of rfl rfl t25)]
                    go_simp
                    exact hK _ _ (hJ.val HOK 13 _ (by kernel_rfl) rfl (Below.refl _ _))
                  case o8two_14 =>
                    intro LX V aX wX K hl hp hcl hf hJ hK
                    have t34 := hf.in (i := 11) (d := 34) (by kernel_rfl) (hp 11 (by kernel_rfl)) (hJ.vals 11 _ rfl (hp 11 (by kernel_rfl)))
                    have t36 := hf.in (i := 13) (d := 36) (by kernel_rfl) (hp 13 (by kernel_rfl)) (hJ.vals 13 _ rfl (hp 13 (by kernel_rfl)))
                    have t25 := hf.in (i := 2) (d := 25) (by kernel_rfl) (hp 2 (by kernel_rfl)) (hJ.vals 2 _ rfl (hp 2 (by kernel_rfl)))
                    obtain ⟨⟨u1, u0⟩, u2, u3, u4, u5, u6, u7, u8, u9, u10⟩ := HNUM.out
                    rw [if_pos (wanted_of rfl rfl t25)]
                    go_simp
                    exact hK _ _ (hJ.val HOK 14 _ (by kernel_rfl) rfl (Below.refl _ _))
                  case o8two_15 =>
                    intro LX V aX wX K hl hp hcl hf hJ hK
                    have t37 := hf.in (i := 14) (d := 37) (by kernel_rfl) (hp 14 (by kernel_rfl)) (hJ.vals 14 _ rfl (hp 14 (by kernel_rfl)))
                    have t25 := hf.in (i := 2) (d := 25) (by kernel_rfl) (hp 2 (by kernel_rfl)) (hJ.vals 2 _ rfl (hp 2 (by kernel_rfl)))
                    obtain ⟨⟨c0, c1⟩, ⟨x0, x1, x2, x3⟩, ⟨y0, y1, y2, y3⟩⟩ := HCE.out wX hJ.below
                    rw [if_pos (wanted_of rfl rfl t25)]
                    go_simp
                    exact hK _ _ (hJ.val HOK 15 _ (by kernel_rfl) rfl (Below.refl _ _))
                  case o8two_16 =>
                    intro LX V aX wX K hl hp hcl hf hJ hK
                    have t33 := hf.in (i := 10) (d := 33) (by kernel_rfl) (hp 10 (by kernel_rfl)) (hJ.vals 10 _ rfl (hp 10 (by kernel_rfl)))
                    have t38 := hf.in (i := 15) (d := 38) (by kernel_rfl) (hp 15 (by kernel_rfl)) (hJ.vals 15 _ rfl (hp 15 (by kernel_rfl)))
                    have t25 := hf.in (i := 2) (d := 25) (by kernel_rfl) (hp 2 (by kernel_rfl)) (hJ.vals 2 _ rfl (hp 2 (by kernel_rfl)))
                    obtain ⟨⟨u1, u0⟩, u2, u3, u4, u5, u6, u7, u8, u9, u10⟩ := HNUM.out
                    rw [if_pos (wanted_of rfl rfl t25)]
                    go_simp
                    exact hK _ _ (hJ.val HOK 16 _ (by kernel_rfl) rfl (Below.refl _ _))
                  case o8two_17 =>
                    intro LX V aX wX K hl hp hcl hf hJ hK
                    have t39 := hf.in (i := 16) (d := 39) (by kernel_rfl) (hp 16 (by kernel_rfl)) (hJ.vals 16 _ rfl (hp 16 (by kernel_rfl)))
                    have t25 := hf.in (i := 2) (d := 25) (by kernel_rfl) (hp 2 (by kernel_rfl)) (hJ.vals 2 _ rfl (hp 2 (by kernel_rfl)))
                    obtain ⟨⟨c0, c1⟩, ⟨x0, x1, x2, x3⟩, ⟨y0, y1, y2, y3⟩⟩ := HCE.out wX hJ.below
                    rw [if_pos (wanted_of rfl rfl t25)]
                    go_simp
                    exact hK _ _ (hJ.val HOK 17 _ (by kernel_rfl) rfl (Below.refl _ _))
                  case o8two_18 =>
                    intro LX V aX wX K hl hp hcl hf hJ hK
                    have t2 : aX.tmps[2]? = some (.int .i64 (lev : Int)) := hf.old (by kernel_rfl) rfl
                    have t25 := hf.in (i := 2) (d := 25) (by kernel_rfl) (hp 2 (by kernel_rfl)) (hJ.vals 2 _ rfl (hp 2 (by kernel_rfl)))
                    rw [if_pos (wanted_of rfl rfl t25)]
                    go_simp
                    exact hK _ _ (hJ.val HOK 18 _ (by kernel_rfl) rfl (Below.refl _ _))
                  case o8two_19 =>
                    intro LX V aX wX K hl hp hcl hf hJ hK
                    have t32 := hf.in (i := 9) (d := 32) (by kernel_rfl) (hp 9 (by kernel_rfl)) (hJ.vals 9 _ rfl (hp 9 (by kernel_rfl)))
                    have t40 := hf.in (i := 17) (d := 40) (by kernel_rfl) (hp 17 (by kernel_rfl)) (hJ.vals 17 _ rfl (hp 17 (by kernel_rfl)))
                    have t41 := hf.in (i := 18) (d := 41) (by kernel_rfl) (hp 18 (by kernel_rfl)) (hJ.vals 18 _ rfl (hp 18 (by kernel_rfl)))
                    have t25 := hf.in (i := 2) (d := 25) (by kernel_rfl) (hp 2 (by kernel_rfl)) (hJ.vals 2 _ rfl (hp 2 (by kernel_rfl)))
                    rw [if_pos (wanted_of rfl rfl t25)]
                    go_simp
                    refine (HA1.out _ hJ.below).mono ?_
                    rintro e wA ⟨rfl, hbA⟩
                    exact hK _ _ (hJ.val HOK 19 _ (by kernel_rfl) rfl (hbA))
                  case o8two_20 =>
                    intro LX V aX wX K hl hp hcl hf hJ hK
                    have t42 := hf.in (i := 19) (d := 42) (by kernel_rfl) (hp 19 (by kernel_rfl)) (hJ.vals 19 _ rfl (hp 19 (by kernel_rfl)))
                    have t25 := hf.in (i := 2) (d := 25) (by kernel_rfl) (hp 2 (by kernel_rfl)) (hJ.vals 2 _ rfl (hp 2 (by kernel_rfl)))
                    rw [if_pos (wanted_of rfl rfl t25)]
                    go_simp
                    exact hK _ _ (hJ.val HOK 20 _ (by kernel_rfl) rfl (Below.refl _ _))
                  case o8two_21 =>
                    intro LX V aX wX K hl hp hcl hf hJ hK
                    have t0 : aX.tmps[0]? = some (.slice (some ⟨bb, off, none⟩) n cap) := hf.old (by kernel_rfl) rfl
                    have t43 := hf.in (i := 20) (d := 43) (by kernel_rfl) (hp 20 (by kernel_rfl)) (hJ.vals 20 _ rfl (hp 20 (by kernel_rfl)))
                    rw [if_pos (wanted_of rfl rfl t43)]
                    go_simp
                    exact hK _ _ (hJ.val HOK 21 _ (by kernel_rfl) rfl (Below.refl _ _))
                  case o8two_22 =>
                    intro LX V aX wX K hl hp hcl hf hJ hK
                    have t7 : aX.tmps[7]? = some (.slice (some ⟨bo, oo, none⟩) no co) := hf.old (by kernel_rfl) rfl
                    have t43 := hf.in (i := 20) (d := 43) (by kernel_rfl) (hp 20 (by kernel_rfl)) (hJ.vals 20 _ rfl (hp 20 (by kernel_rfl)))
                    rw [if_pos (wanted_of rfl rfl t43)]
                    go_simp
                    exact hK _ _ (hJ.val HOK 22 _ (by kernel_rfl) rfl (Below.refl _ _))
                  case o8two_23 =>
                    intro LX V aX wX K hl hp hcl hf hJ hK
                    have t9 : aX.tmps[9]? = some (.int .i64 (k : Int)) := hf.old (by kernel_rfl) rfl
                    have t43 := hf.in (i := 20) (d := 43) (by kernel_rfl) (hp 20 (by kernel_rfl)) (hJ.vals 20 _ rfl (hp 20 (by kernel_rfl)))
                    rw [if_pos (wanted_of rfl rfl t43)]
                    go_simp
                    exact hK _ _ (hJ.val HOK 23 _ (by kernel_rfl) rfl (Below.refl _ _))
                  case o8two_24 =>
                    intro LX V aX wX K hl hp hcl hf hJ hK
                    have t46 := hf.in (i := 23) (d := 46) (by kernel_rfl) (hp 23 (by kernel_rfl)) (hJ.vals 23 _ rfl (hp 23 (by kernel_rfl)))
                    have t43 := hf.in (i := 20) (d := 43) (by kernel_rfl) (hp 20 (by kernel_rfl)) (hJ.vals 20 _ rfl (hp 20 (by kernel_rfl)))
                    obtain ⟨⟨u1, u0⟩, u2, u3, u4, u5, u6, u7, u8, u9, u10⟩ := HNUM.out
                    rw [if_pos (wanted_of rfl rfl t43)]
                    go_simp
                    exact hK _ _ (hJ.val HOK 24 _ (by kernel_rfl) rfl (Below.refl _ _))
                  case o8two_25 =>
                    intro LX V aX wX K hl hp hcl hf hJ hK
                    have t45 := hf.in (i := 22) (d := 45) (by kernel_rfl) (hp 22 (by kernel_rfl)) (hJ.vals 22 _ rfl (hp 22 (by kernel_rfl)))
                    have t47 := hf.in (i := 24) (d := 47) (by kernel_rfl) (hp 24 (by kernel_rfl)) (hJ.vals 24 _ rfl (hp 24 (by kernel_rfl)))
                    have t43 := hf.in (i := 20) (d := 43) (by kernel_rfl) (hp 20 (by kernel_rfl)) (hJ.vals 20 _ rfl (hp 20 (by kernel_rfl)))
                    obtain ⟨⟨u1, u0⟩, u2, u3, u4, u5, u6, u7, u8, u9, u10⟩ := HNUM.out
                    rw [if_pos (wanted_of rfl rfl t43)]
                    go_simp
                    exact hK _ _ (hJ.val HOK 25 _ (by kernel_rfl) rfl (Below.refl _ _))
                  case o8two_26 =>
                    intro LX V aX wX K hl hp hcl hf hJ hK
                    have t48 := hf.in (i := 25) (d := 48) (by kernel_rfl) (hp 25 (by kernel_rfl)) (hJ.vals 25 _ rfl (hp 25 (by kernel_rfl)))
                    have t43 := hf.in (i := 20) (d := 43) (by kernel_rfl) (hp 20 (by kernel_rfl)) (hJ.vals 20 _ rfl (hp 20 (by kernel_rfl)))
                    obtain ⟨⟨c0, c1⟩, ⟨x0, x1, x2, x3⟩, ⟨y0, y1, y2, y3⟩⟩ := HCE.out wX hJ.below
                    rw [if_pos (wanted_of rfl rfl t43)]
                    go_simp
                    exact hK _ _ (hJ.val HOK 26 _ (by kernel_rfl) rfl (Below.refl _ _))
                  case o8two_27 =>
                    intro LX V aX wX K hl hp hcl hf hJ hK
                    have t44 := hf.in (i := 21) (d := 44) (by kernel_rfl) (hp 21 (by kernel_rfl)) (hJ.vals 21 _ rfl (hp 21 (by kernel_rfl)))
                    have t49 := hf.in (i := 26) (d := 49) (by kernel_rfl) (hp 26 (by kernel_rfl)) (hJ.vals 26 _ rfl (hp 26 (by kernel_rfl)))
                    have t43 := hf.in (i := 20) (d := 43) (by kernel_rfl) (hp 20 (by kernel_rfl)) (hJ.vals 20 _ rfl (hp 20 (by kernel_rfl)))
                    obtain ⟨⟨u1, u0⟩, u2, u3, u4, u5, u6, u7, u8, u9, u10⟩ := HNUM.out
                    rw [if_pos (wanted_of rfl rfl t43)]
                    go_simp
                    exact hK _ _ (hJ.val HOK 27 _ (by kernel_rfl) rfl (Below.refl _ _))
                  case o8two_28 =>
                    intro LX V aX wX K hl hp hcl hf hJ hK
                    have t50 := hf.in (i := 27) (d := 50) (by kernel_rfl) (hp 27 (by kernel_rfl)) (hJ.vals 27 _ rfl (hp 27 (by kernel_rfl)))
                    have t43 := hf.in (i := 20) (d := 43) (by kernel_rfl) (hp 20 (by kernel_rfl)) (hJ.vals 20 _ rfl (hp 20 (by kernel_rfl)))
                    obtain ⟨⟨c0, c1⟩, ⟨x0, x1, x2, x3⟩, ⟨y0, y1, y2, y3⟩⟩ := HCE.out wX hJ.below
                    rw [if_pos (wanted_of rfl rfl t43)]
                    go_simp
                    exact hK _ _ (hJ.val HOK 28 _ (by kernel_rfl) rfl (Below.refl _ _))
                  case o8two_29 =>
                    intro LX V aX wX K hl hp hcl hf hJ hK
                    have t0 : aX.tmps[0]? = some (.slice (some ⟨bb, off, none⟩) n cap) := hf.old (by kernel_rfl) rfl
                    have t43 := hf.in (i := 20) (d := 43) (by kernel_rfl) (hp 20 (by kernel_rfl)) (hJ.vals 20 _ rfl (hp 20 (by kernel_rfl)))
                    rw [if_pos (wanted_of rfl rfl t43)]
                    go_simp
                    exact hK _ _ (hJ.val HOK 29 _ (by kernel_rfl) rfl (Below.refl _ _))
                  case o8two_30 =>
                    intro LX V aX wX K hl hp hcl hf hJ hK
                    have t1 : aX.tmps[1]? = some (.slice (some ⟨pb, pf, none⟩) m pc) := hf.old (by kernel_rfl) rfl
                    have t43 := hf.in (i := 20) (d := 43) (by kernel_rfl) (hp 20 (by kernel_rfl)) (hJ.vals 20 _ rfl (hp 20 (by kernel_rfl)))
                    rw [if_pos (wanted_of rfl rfl t43)]
                    go_simp
                    exact hK _ _ (hJ.val HOK 30 _ (by kernel_rfl) rfl (Below.refl _ _))
                  case o8two_31 =>
                    intro LX V aX wX K hl hp hcl hf hJ hK
                    have t8 : aX.tmps[8]? = some (.int .i64 (i : Int)) := hf.old (by kernel_rfl) rfl
                    have t43 := hf.in (i := 20) (d := 43) (by kernel_rfl) (hp 20 (by kernel_rfl)) (hJ.vals 20 _ rfl (hp 20 (by kernel_rfl)))
                    rw [if_pos (wanted_of rfl rfl t43)]
                    go_simp
                    exact hK _ _ (hJ.val HOK 31 _ (by kernel_rfl) rfl (Below.refl _ _))
                  case o8two_32 =>
                    intro LX V aX wX K hl hp hcl hf hJ hK
                    have t53 := hf.in (i := 30) (d := 53) (by kernel_rfl) (hp 30 (by kernel_rfl)) (hJ.vals 30 _ rfl (hp 30 (by kernel_rfl)))
                    have t54 := hf.in (i := 31) (d := 54) (by kernel_rfl) (hp 31 (by kernel_rfl)) (hJ.vals 31 _ rfl (hp 31 (by kernel_rfl)))
                    have t43 := hf.in (i := 20) (d := 43) (by kernel_rfl) (hp 20 (by kernel_rfl)) (hJ.vals 20 _ rfl (hp 20 (by kernel_rfl)))
                    obtain ⟨⟨u1, u0⟩, u2, u3, u4, u5, u6, u7, u8, u9, u10⟩ := HNUM.out
                    rw [if_pos (wanted_of rfl rfl t43)]
                    go_simp
                    exact hK _ _ (hJ.val HOK 32 _ (by kernel_rfl) rfl (Below.refl _ _))
                  case o8two_33 =>
                    intro LX V aX wX K hl hp hcl hf hJ hK
                    have t55 := hf.in (i := 32) (d := 55) (by kernel_rfl) (hp 32 (by kernel_rfl)) (hJ.vals 32 _ rfl (hp 32 (by kernel_rfl)))
                    have t43 := hf.in (i := 20) (d := 43) (by kernel_rfl) (hp 20 (by kernel_rfl)) (hJ.vals 20 _ rfl (hp 20 (by kernel_rfl)))
                    obtain ⟨⟨c0, c1⟩, ⟨x0, x1, x2, x3⟩, ⟨y0, y1, y2, y3⟩⟩ := HCE.out wX hJ.below
                    rw [if_pos (wanted_of rfl rfl t43)]
                    go_simp
                    exact hK _ _ (hJ.val HOK 33 _ (by kernel_rfl) rfl (Below.refl _ _))
                  case o8two_34 =>
                    intro LX V aX wX K hl hp hcl hf hJ hK
                    have t52 := hf.in (i := 29) (d := 52) (by kernel_rfl) (hp 29 (by kernel_rfl)) (hJ.vals 29 _ rfl (hp 29 (by kernel_rfl)))
                    have t56 := hf.in (i := 33) (d := 56) (by kernel_rfl) (hp 33 (by kernel_rfl)) (hJ.vals 33 _ rfl (hp 33 (by kernel_rfl)))
                    have t43 := hf.in (i := 20) (d := 43) (by kernel_rfl) (hp 20 (by kernel_rfl)) (hJ.vals 20 _ rfl (hp 20 (by kernel_rfl)))
                    obtain ⟨⟨u1, u0⟩, u2, u3, u4, u5, u6, u7, u8, u9, u10⟩ := HNUM.out
                    rw [if_pos (wanted_of rfl rfl t43)]
                    go_simp
                    exact hK _ _ (hJ.val HOK 34 _ (by kernel_rfl) rfl (Below.refl _ _))
                  case o8two_35 =>
                    intro LX V aX wX K hl hp hcl hf hJ hK
                    have t57 := hf.in (i := 34) (d := 57) (by kernel_rfl) (hp 34 (by kernel_rfl)) (hJ.vals 34 _ rfl (hp 34 (by kernel_rfl)))
                    have t43 := hf.in (i := 20) (d := 43) (by kernel_rfl) (hp 20 (by kernel_rfl)) (hJ.vals 20 _ rfl (hp 20 (by kernel_rfl)))
                    obtain ⟨⟨c0, c1⟩, ⟨x0, x1, x2, x3⟩, ⟨y0, y1, y2, y3⟩⟩ := HCE.out wX hJ.below
                    rw [if_pos (wanted_of rfl rfl t43)]
                    go_simp
                    exact hK _ _ (hJ.val HOK 35 _ (by kernel_rfl) rfl (Below.refl _ _))
                  case o8two_36 =>
                    intro LX V aX wX K hl hp hcl hf hJ hK
                    have t2 : aX.tmps[2]? = some (.int .i64 (lev : Int)) := hf.old (by kernel_rfl) rfl
                    have t43 := hf.in (i := 20) (d := 43) (by kernel_rfl) (hp 20 (by kernel_rfl)) (hJ.vals 20 _ rfl (hp 20 (by kernel_rfl)))
                    rw [if_pos (wanted_of rfl rfl t43)]
                    go_simp
                    exact hK _ _ (hJ.val HOK 36 _ (by kernel_rfl) rfl (Below.refl _ _))
                  case o8two_37 =>
                    intro LX V aX wX K hl hp hcl hf hJ hK
                    have t51 := hf.in (i := 28) (d := 51) (by kernel_rfl) (hp 28 (by kernel_rfl)) (hJ.vals 28 _ rfl (hp 28 (by kernel_rfl)))
                    have t58 := hf.in (i := 35) (d := 58) (by kernel_rfl) (hp 35 (by kernel_rfl)) (hJ.vals 35 _ rfl (hp 35 (by kernel_rfl)))
                    have t59 := hf.in (i := 36) (d := 59) (by kernel_rfl) (hp 36 (by kernel_rfl)) (hJ.vals 36 _ rfl (hp 36 (by kernel_rfl)))
                    have t43 := hf.in (i := 20) (d := 43) (by kernel_rfl) (hp 20 (by kernel_rfl)) (hJ.vals 20 _ rfl (hp 20 (by kernel_rfl)))
                    rw [if_pos (wanted_of rfl rfl t43)]
                    go_simp
                    refine (HA2.out _ hJ.below).mono ?_
                    rintro e wA ⟨rfl, hbA⟩
                    exact hK _ _ (hJ.val HOK 37 _ (by kernel_rfl) rfl (hbA))
                  case o8two_38 =>
                    intro LX V aX wX K hl hp hcl hf hJ hK
                    have t60 := hf.in (i := 37) (d := 60) (by kernel_rfl) (hp 37 (by kernel_rfl)) (hJ.vals 37 _ rfl (hp 37 (by kernel_rfl)))
                    have t43 := hf.in (i := 20) (d := 43) (by kernel_rfl) (hp 20 (by kernel_rfl)) (hJ.vals 20 _ rfl (hp 20 (by kernel_rfl)))
                    rw [if_pos (wanted_of rfl rfl t43)]
                    go_simp
                    exact hK _ _ (hJ.val HOK 38 _ (by kernel_rfl) rfl (Below.refl _ _))
                  case o8two_39 =>
                    intro LX V aX wX K hl hp hcl hf hJ hK
                    have t61 := hf.in (i := 38) (d := 61) (by kernel_rfl) (hp 38 (by kernel_rfl)) (hJ.vals 38 _ rfl (hp 38 (by kernel_rfl)))
                    have t43 := hf.in (i := 20) (d := 43) (by kernel_rfl) (hp 20 (by kernel_rfl)) (hJ.vals 20 _ rfl (hp 20 (by kernel_rfl)))
                    rw [if_pos (wanted_of rfl rfl t43)]
                    go_simp
                    exact hK _ _ (hJ.val HOK 39 _ (by kernel_rfl) rfl (Below.refl _ _))
                  case o8two_40 =>
                    intro LX V aX wX K hl hp hcl hf hJ hK
                    have t62 := hf.in (i := 39) (d := 62) (by kernel_rfl) (hp 39 (by kernel_rfl)) (hJ.vals 39 _ rfl (hp 39 (by kernel_rfl)))
                    rw [if_neg (by rw [wanted_not (b := true) rfl rfl t62]; exact Bool.false_ne_true)]
                    exact hK _ _ (hJ.val HOK 40 _ (by kernel_rfl) rfl (Below.refl _ _))
                  case o8two_41 =>
                    intro LX V aX wX K hl hp hcl hf hJ hK
                    have t62 := hf.in (i := 39) (d := 62) (by kernel_rfl) (hp 39 (by kernel_rfl)) (hJ.vals 39 _ rfl (hp 39 (by kernel_rfl)))
                    rw [if_neg (by rw [wanted_not (b := true) rfl rfl t62]; exact Bool.false_ne_true)]
                    exact hK _ _ (hJ.val HOK 41 _ (by kernel_rfl) rfl (Below.refl _ _))
                  case o8two_42 =>
                    intro LX V aX wX K hl hp hcl hf hJ hK
                    have t62 := hf.in (i := 39) (d := 62) (by kernel_rfl) (hp 39 (by kernel_rfl)) (hJ.vals 39 _ rfl (hp 39 (by kernel_rfl)))
                    rw [if_neg (by rw [wanted_not (b := true) rfl rfl t62]; exact Bool.false_ne_true)]
                    exact hK _ _ (hJ.val HOK 42 _ (by kernel_rfl) rfl (Below.refl _ _))
                  case o8two_43 =>
                    intro LX V aX wX K hl hp hcl hf hJ hK
                    have t62 := hf.in (i := 39) (d := 62) (by kernel_rfl) (hp 39 (by kernel_rfl)) (hJ.vals 39 _ rfl (hp 39 (by kernel_rfl)))
                    rw [if_neg (by rw [wanted_not (b := true) rfl rfl t62]; exact Bool.false_ne_true)]
                    exact hK _ _ (hJ.val HOK 43 _ (by kernel_rfl) rfl (Below.refl _ _))
                  case o8two_44 =>
                    intro LX V aX wX K hl hp hcl hf hJ hK
                    have t62 := hf.in (i := 39) (d := 62) (by kernel_rfl) (hp 39 (by kernel_rfl)) (hJ.vals 39 _ rfl (hp 39 (by kernel_rfl)))
                    rw [if_neg (by rw [wanted_not (b := true) rfl rfl t62]; exact Bool.false_ne_true)]
                    exact hK _ _ (hJ.val HOK 44 _ (by kernel_rfl) rfl (Below.refl _ _))
                  case o8two_45 =>
                    intro LX V aX wX K hl hp hcl hf hJ hK
                    have t62 := hf.in (i := 39) (d := 62) (by kernel_rfl) (hp 39 (by kernel_rfl)) (hJ.vals 39 _ rfl (hp 39 (by kernel_rfl)))
                    rw [if_neg (by rw [wanted_not (b := true) rfl rfl t62]; exact Bool.false_ne_true)]
                    exact hK _ _ (hJ.val HOK 45 _ (by kernel_rfl) rfl (Below.refl _ _))
                  case o8two_46 =>
                    intro LX V aX wX K hl hp hcl hf hJ hK
                    have t62 := hf.in (i := 39) (d := 62) (by kernel_rfl) (hp 39 (by kernel_rfl)) (hJ.vals 39 _ rfl (hp 39 (by kernel_rfl)))
                    rw [if_neg (by rw [wanted_not (b := true) rfl rfl t62]; exact Bool.false_ne_true)]
                    exact hK _ _ (hJ.val HOK 46 _ (by kernel_rfl) rfl (Below.refl _ _))
                  case o8two_47 =>
                    intro LX V aX wX K hl hp hcl hf hJ hK
                    have t62 := hf.in (i := 39) (d := 62) (by kernel_rfl) (hp 39 (by kernel_rfl)) (hJ.vals 39 _ rfl (hp 39 (by kernel_rfl)))
                    rw [if_neg (by rw [wanted_not (b := true) rfl rfl t62]; exact Bool.false_ne_true)]
                    exact hK _ _ (hJ.val HOK 47 _ (by kernel_rfl) rfl (Below.refl _ _))
                  case o8two_48 =>
                    intro LX V aX wX K hl hp hcl hf hJ hK
                    have t62 := hf.in (i := 39) (d := 62) (by kernel_rfl) (hp 39 (by kernel_rfl)) (hJ.vals 39 _ rfl (hp 39 (by kernel_rfl)))
                    rw [if_neg (by rw [wanted_not (b := true) rfl rfl t62]; exact Bool.false_ne_true)]
                    exact hK _ _ (hJ.val HOK 48 _ (by kernel_rfl) rfl (Below.refl _ _))
                  case o8two_49 =>
                    intro LX V aX wX K hl hp hcl hf hJ hK
                    have t62 := hf.in (i := 39) (d := 62) (by kernel_rfl) (hp 39 (by kernel_rfl)) (hJ.vals 39 _ rfl (hp 39 (by kernel_rfl)))
                    rw [if_neg (by rw [wanted_not (b := true) rfl rfl t62]; exact Bool.false_ne_true)]
                    exact hK _ _ (hJ.val HOK 49 _ (by kernel_rfl) rfl (Below.refl _ _))
                  case o8two_50 =>
                    intro LX V aX wX K hl hp hcl hf hJ hK
                    have t62 := hf.in (i := 39) (d := 62) (by kernel_rfl) (hp 39 (by kernel_rfl)) (hJ.vals 39 _ rfl (hp 39 (by kernel_rfl)))
                    have t72 := hf.in (i := 49) (d := 72) (by kernel_rfl) (hp 49 (by kernel_rfl)) (hJ.vals 49 _ rfl (hp 49 (by kernel_rfl)))
                    have t43 := hf.in (i := 20) (d := 43) (by kernel_rfl) (hp 20 (by kernel_rfl)) (hJ.vals 20 _ rfl (hp 20 (by kernel_rfl)))
                    rw [if_pos (wanted_of rfl rfl t43)]
                    go_simp
                    exact hK _ _ (hJ.val HOK 50 _ (by kernel_rfl) rfl (Below.refl _ _))
                  case o8two_51 =>
                    intro LX V aX wX K hl hp hcl hf hJ hK
                    have t43 := hf.in (i := 20) (d := 43) (by kernel_rfl) (hp 20 (by kernel_rfl)) (hJ.vals 20 _ rfl (hp 20 (by kernel_rfl)))
                    have t73 := hf.in (i := 50) (d := 73) (by kernel_rfl) (hp 50 (by kernel_rfl)) (hJ.vals 50 _ rfl (hp 50 (by kernel_rfl)))
                    have t25 := hf.in (i := 2) (d := 25) (by kernel_rfl) (hp 2 (by kernel_rfl)) (hJ.vals 2 _ rfl (hp 2 (by kernel_rfl)))
                    rw [if_pos (wanted_of rfl rfl t25)]
                    go_simp
                    exact hK _ _ (hJ.val HOK 51 _ (by kernel_rfl) rfl (Below.refl _ _))
                  case o8two_52 =>
                    intro LX V aX wX K hl hp hcl hf hJ hK
                    have t25 := hf.in (i := 2) (d := 25) (by kernel_rfl) (hp 2 (by kernel_rfl)) (hJ.vals 2 _ rfl (hp 2 (by kernel_rfl)))
                    have t74 := hf.in (i := 51) (d := 74) (by kernel_rfl) (hp 51 (by kernel_rfl)) (hJ.vals 51 _ rfl (hp 51 (by kernel_rfl)))
                    rw [if_pos (by rfl)]
                    go_simp
                    exact hK _ _ (hJ.val HOK 52 _ (by kernel_rfl) rfl (Below.refl _ _))
                intro V wZ hJ
                have hv := hJ.vals 52 _ rfl (by kernel_rfl)
                have HBY := Lib.hid hJ.below
                simp only [puts, Act.put, List.setIfInBounds_toArray, List.set_cons_zero, List.set_cons_succ]
                rw [hv]
                clear hJ HOK hv
                obtain ⟨wy, hwy⟩ : ∃ wy, wy = wZ := ⟨_, rfl⟩
                rw [← hwy] at HBY ⊢
                clear hwy
                have HB2 : Hid (Below w1.heap.size w1 wy) := Lib.hid (hbk.out.trans (HBY.out.mono hbk.out.size))
                have HTK : Hid (∀ wX, Below wy.heap.size wy wX → IsInts wX (some ⟨bo, oo, none⟩) k co (S.take k)) := Lib.hid (fun wX hX => (HIX.out.front HKN.out).later (HB2.out.trans (hX.mono HB2.out.size)) (Nat.le_refl _))
                have HDR : Hid (∀ wX, Below wy.heap.size wy wX → IsInts wX (if co = k then some ⟨bo, oo, none⟩ else some ⟨bo, oo + k, none⟩) (no - k) (co - k) (S.drop k)) := Lib.hid (fun wX hX => (HIX.out.back HKN.out).later (HB2.out.trans (hX.mono HB2.out.size)) (Nat.le_refl _))
                have HPC : Hid (∀ wX, Below wy.heap.size wy wX → wX.cell? ⟨pb, pf + i, none⟩ = some (.int .i64 (xn : Int))) := Lib.hid (fun wX hX => GPC1.out wX (HB2.out.trans (hX.mono HB2.out.size)))
                have HLN1 : Hid (([] : List Int).length + k ≤ 1000000000) := Lib.hid (by have := HKN.out; simp; omega)
                have HLN2 : Hid (([] ++ S.take k : List Int).length + [(xn : Int)].length ≤ 1000000000) := Lib.hid (by have := HNO.out; simp; omega)
                have HLN3 : Hid (([] ++ S.take k ++ [(xn : Int)] : List Int).length + (no - k) ≤ 1000000000) := Lib.hid (by have := HNO.out; simp; omega)
                go_wp2_with fail
                have HOK : ∀ r ∈ ([⟨0, 0, 0, some 4, [], fun V w => OwnI w wy.heap.size (V 0) ([])⟩, ⟨1, 4, 4, some 10, [], fun V w => OwnI w wy.heap.size (V 4) ([] ++ S.take k)⟩, ⟨2, 9, 9, none, [], fun V w => OwnI w wy.heap.size (V 9) ([(xn : Int)])⟩, ⟨3, 10, 10, some 14, [], fun V w => OwnI w wy.heap.size (V 10) ([] ++ S.take k ++ [(xn : Int)])⟩, ⟨4, 14, 14, some 15, [], fun V w => OwnI w wy.heap.size (V 14) ([] ++ S.take k ++ [(xn : Int)] ++ S.drop k)⟩, ⟨5, 15, 15, none, [], fun V w => OwnI w wy.heap.size (V 15) ([] ++ S.take k ++ [(xn : Int)] ++ S.drop k)⟩] : List Resr), ResOk wy r := by
                  intro r hr
                  simp only [List.mem_cons, List.not_mem_nil, or_false] at hr
                  rcases hr with rfl | rfl | rfl | rfl | rfl | rfl
                  · exact resInts_ok _
                  · exact resInts_ok _
                  · exact resInts_ok _
                  · exact resInts_ok _
                  · exact resInts_ok _
                  · exact resInts_ok _
                refine wp_region_J (s := [(78, 0), (79, 1), (80, 2), (81, 3), (82, 4), (83, 5), (84, 6), (85, 7), (86, 8), (87, 9), (88, 10), (89, 11), (90, 12), (91, 13), (92, 14), (7, 15)]) (by kernel_rfl) (ResJ wy (fun iX => match iX with | 1 => some (.slice (some ⟨bo, oo, none⟩) no co) | 2 => some (.int .i64 (k : Int)) | 3 => some (.slice (some ⟨bo, oo, none⟩) k co) | 5 => some (.slice (some ⟨pb, pf, none⟩) m pc) | 6 => some (.int .i64 (i : Int)) | 7 => some (.pointer (some ⟨pb, pf + i, none⟩)) | 8 => some (.int .i64 (xn : Int)) | 11 => some (.slice (some ⟨bo, oo, none⟩) no co) | 12 => some (.int .i64 (k : Int)) | 13 => some (.slice (if co = k then some ⟨bo, oo, none⟩ else some ⟨bo, oo + k, none⟩) (no - k) (co - k)) | _ => none) [⟨0, 0, 0, some 4, [], fun V w => OwnI w wy.heap.size (V 0) ([])⟩, ⟨1, 4, 4, some 10, [], fun V w => OwnI w wy.heap.size (V 4) ([] ++ S.take k)⟩, ⟨2, 9, 9, none, [], fun V w => OwnI w wy.heap.size (V 9) ([(xn : Int)])⟩, ⟨3, 10, 10, some 14, [], fun V w => OwnI w wy.heap.size (V 10) ([] ++ S.take k ++ [(xn : Int)])⟩, ⟨4, 14, 14, some 15, [], fun V w => OwnI w wy.heap.size (V 14) ([] ++ S.take k ++ [(xn : Int)] ++ S.drop k)⟩, ⟨5, 15, 15, none, [], fun V w => OwnI w wy.heap.size (V 15) ([] ++ S.take k ++ [(xn : Int)] ++ S.drop k)⟩]) (by kernel_rfl) (by kernel_rfl) (by kernel_rfl) (by kernel_rfl) (fun _ => undef) ?start10b ?step10b ?done10b
                case start10b => exact ResJ.start ((Below.refl _ _).drew) (by kernel_rfl)
                case step10b =>
                  refine ⟨?o10b_0, ?o10b_1, ?o10b_2, ?o10b_3, ?o10b_4, ?o10b_5, ?o10b_6, ?o10b_7, ?o10b_8, ?o10b_9, ?o10b_10, ?o10b_11, ?o10b_12, ?o10b_13, ?o10b_14, ?o10b_15, trivial⟩
                  case o10b_0 =>
                    intro LX V aX wX K hl hp hcl hf hJ hK
                    rw [if_pos (by rfl)]
                    go_simp
                    exact hK _ _ (hJ.step HOK 0 _ hl (by kernel_rfl) trivial none (World.grownBy_alloc _ _ _) (.inl rfl) (new_one (by kernel_rfl) ⟨0, 0, 0, some 4, [], fun V w => OwnI w wy.heap.size (V 0) ([])⟩ (List.mem_of_getElem? (i := 0) rfl) rfl ⟨(fun j hj => by rcases hj with rfl | hj; exact .inl rfl; cases hj), by (try simp only); rw [upd_at]; exact OwnI.lit wX _ hJ.below.size [] (by simp), fun g hg => .inl (by rw [upd_at] at hg; cases hg; exact Nat.le_refl _)⟩))
                  case o10b_1 =>
                    intro LX V aX wX K hl hp hcl hf hJ hK
                    have t7 := hf.still (t := 7) (v := .slice (some ⟨bo, oo, none⟩) no co) 15 (by kernel_rfl) (hcl.no 15 (by kernel_rfl) hl) rfl
                    rw [if_pos (by rfl)]
                    go_simp
                    exact hK _ _ (hJ.val HOK 1 _ hl (by kernel_rfl) (by kernel_rfl) rfl (Below.refl _ _))
                  case o10b_2 =>
                    intro LX V aX wX K hl hp hcl hf hJ hK
                    have t9 : aX.tmps[9]? = some (.int .i64 (k : Int)) := hf.old (by kernel_rfl) rfl
                    rw [if_pos (by rfl)]
                    go_simp
                    exact hK _ _ (hJ.val HOK 2 _ hl (by kernel_rfl) (by kernel_rfl) rfl (Below.refl _ _))
                  case o10b_3 =>
                    intro LX V aX wX K hl hp hcl hf hJ hK
                    have t79 := hf.in (i := 1) (d := 79) (by kernel_rfl) (hp 1 (by kernel_rfl)) (hJ.vals 1 _ rfl (hp 1 (by kernel_rfl)))
                    have t80 := hf.in (i := 2) (d := 80) (by kernel_rfl) (hp 2 (by kernel_rfl)) (hJ.vals 2 _ rfl (hp 2 (by kernel_rfl)))
                    have hk5 := HK5.out
                    obtain ⟨hk6, hk7, hk8, hk9, hk10, hk11⟩ := hk5
                    rw [if_pos (by rfl)]
                    go_simp
                    exact hK _ _ (hJ.val HOK 3 _ hl (by kernel_rfl) (by kernel_rfl) rfl (Below.refl _ _))
                  case o10b_4 =>
                    intro LX V aX wX K hl hp hcl hf hJ hK
                    have t78 := hf.in (i := 0) (d := 78) (by kernel_rfl) (hp 0 (by kernel_rfl)) rfl
                    have t81 := hf.in (i := 3) (d := 81) (by kernel_rfl) (hp 3 (by kernel_rfl)) (hJ.vals 3 _ rfl (hp 3 (by kernel_rfl)))
                    rw [if_pos (by rfl)]
                    have hq0 := hJ.at ⟨0, 0, 0, some 4, [], fun V w => OwnI w wy.heap.size (V 0) ([])⟩ (List.mem_of_getElem? (i := 0) rfl) (lor (hp 0 (by kernel_rfl))) hl
                    refine opwp_append_intsF _ _ rfl wy.heap.size (V 0) ([]) (eval_tmp t78) hq0 _ _ _ (S.take k) (eval_tmp t81) (HTK.out _ hJ.below) (HLN1.out) hJ.below.size ?_
                    intro v' w' hown2 hgr hfr
                    exact hK _ _ (hJ.step HOK 4 v' hl (by kernel_rfl) trivial (V 0).ownBlock hgr (.inr ⟨⟨0, 0, 0, some 4, [], fun V w => OwnI w wy.heap.size (V 0) ([])⟩, List.mem_of_getElem? (i := 0) rfl, rfl, lor (hp 0 (by kernel_rfl)), by (try simp only); exact OwnI.any hq0⟩) (new_one (by kernel_rfl) ⟨1, 4, 4, some 10, [], fun V w => OwnI w wy.heap.size (V 4) ([] ++ S.take k)⟩ (List.mem_of_getElem? (i := 1) rfl) rfl ⟨(fun j hj => by rcases hj with rfl | hj; exact .inl rfl; cases hj), by (try simp only); rw [upd_at]; exact hown2, fun g hg => by rw [upd_at, OwnI.any hown2] at hg; exact hfr g hg⟩))
                  case o10b_5 =>
                    intro LX V aX wX K hl hp hcl hf hJ hK
                    have t1 : aX.tmps[1]? = some (.slice (some ⟨pb, pf, none⟩) m pc) := hf.old (by kernel_rfl) rfl
                    rw [if_pos (by rfl)]
                    go_simp
                    exact hK _ _ (hJ.val HOK 5 _ hl (by kernel_rfl) (by kernel_rfl) rfl (Below.refl _ _))
                  case o10b_6 =>
                    intro LX V aX wX K hl hp hcl hf hJ hK
                    have t8 : aX.tmps[8]? = some (.int .i64 (i : Int)) := hf.old (by kernel_rfl) rfl
                    rw [if_pos (by rfl)]
                    go_simp
                    exact hK _ _ (hJ.val HOK 6 _ hl (by kernel_rfl) (by kernel_rfl) rfl (Below.refl _ _))
                  case o10b_7 =>
                    intro LX V aX wX K hl hp hcl hf hJ hK
                    have t83 := hf.in (i := 5) (d := 83) (by kernel_rfl) (hp 5 (by kernel_rfl)) (hJ.vals 5 _ rfl (hp 5 (by kernel_rfl)))
                    have t84 := hf.in (i := 6) (d := 84) (by kernel_rfl) (hp 6 (by kernel_rfl)) (hJ.vals 6 _ rfl (hp 6 (by kernel_rfl)))
                    obtain ⟨u2, u3⟩ := HPI.out
                    rw [if_pos (by rfl)]
                    go_simp
                    exact hK _ _ (hJ.val HOK 7 _ hl (by kernel_rfl) (by kernel_rfl) rfl (Below.refl _ _))
                  case o10b_8 =>
                    intro LX V aX wX K hl hp hcl hf hJ hK
                    have t85 := hf.in (i := 7) (d := 85) (by kernel_rfl) (hp 7 (by kernel_rfl)) (hJ.vals 7 _ rfl (hp 7 (by kernel_rfl)))
                    have c0 := HPC.out wX hJ.below
                    rw [if_pos (by rfl)]
                    go_simp
                    exact hK _ _ (hJ.val HOK 8 _ hl (by kernel_rfl) (by kernel_rfl) rfl (Below.refl _ _))
                  case o10b_9 =>
                    intro LX V aX wX K hl hp hcl hf hJ hK
                    have t86 := hf.in (i := 8) (d := 86) (by kernel_rfl) (hp 8 (by kernel_rfl)) (hJ.vals 8 _ rfl (hp 8 (by kernel_rfl)))
                    rw [if_pos (by rfl)]
                    go_simp
                    exact hK _ _ (hJ.step HOK 9 _ hl (by kernel_rfl) trivial none (World.grownBy_alloc _ _ _) (.inl rfl) (new_one (by kernel_rfl) ⟨2, 9, 9, none, [], fun V w => OwnI w wy.heap.size (V 9) ([(xn : Int)])⟩ (List.mem_of_getElem? (i := 2) rfl) rfl ⟨(fun j hj => by rcases hj with rfl | hj; exact .inl rfl; cases hj), by (try simp only); rw [upd_at]; exact OwnI.lit wX _ hJ.below.size [(xn : Int)] (by simp), fun g hg => .inl (by rw [upd_at] at hg; cases hg; exact Nat.le_refl _)⟩))
                  case o10b_10 =>
                    intro LX V aX wX K hl hp hcl hf hJ hK
                    have t82 := hf.in (i := 4) (d := 82) (by kernel_rfl) (hp 4 (by kernel_rfl)) rfl
                    have t87 := hf.in (i := 9) (d := 87) (by kernel_rfl) (hp 9 (by kernel_rfl)) rfl
                    rw [if_pos (by rfl)]
                    have hq9 := hJ.at ⟨2, 9, 9, none, [], fun V w => OwnI w wy.heap.size (V 9) ([(xn : Int)])⟩ (List.mem_of_getElem? (i := 2) rfl) (lor (hp 9 (by kernel_rfl))) trivial
                    obtain ⟨a87, c87, hv87, hpts⟩ := OwnI.ints hq9
                    have hq0 := hJ.at ⟨1, 4, 4, some 10, [], fun V w => OwnI w wy.heap.size (V 4) ([] ++ S.take k)⟩ (List.mem_of_getElem? (i := 1) rfl) (lor (hp 4 (by kernel_rfl))) hl
                    refine opwp_append_intsF _ _ rfl wy.heap.size (V 4) ([] ++ S.take k) (eval_tmp t82) hq0 _ _ _ ([(xn : Int)]) (by rw [eval_tmp t87]; exact hv87) (hpts) (HLN2.out) hJ.below.size ?_
                    intro v' w' hown2 hgr hfr
                    exact hK _ _ (hJ.step HOK 10 v' hl (by kernel_rfl) trivial (V 4).ownBlock hgr (.inr ⟨⟨1, 4, 4, some 10, [], fun V w => OwnI w wy.heap.size (V 4) ([] ++ S.take k)⟩, List.mem_of_getElem? (i := 1) rfl, rfl, lor (hp 4 (by kernel_rfl)), by (try simp only); exact OwnI.any hq0⟩) (new_one (by kernel_rfl) ⟨3, 10, 10, some 14, [], fun V w => OwnI w wy.heap.size (V 10) ([] ++ S.take k ++ [(xn : Int)])⟩ (List.mem_of_getElem? (i := 3) rfl) rfl ⟨(fun j hj => by rcases hj with rfl | hj; exact .inl rfl; cases hj), by (try simp only); rw [upd_at]; exact hown2, fun g hg => by rw [upd_at, OwnI.any hown2] at hg; exact hfr g hg⟩))
                  case o10b_11 =>
                    intro LX V aX wX K hl hp hcl hf hJ hK
                    have t7 := hf.still (t := 7) (v := .slice (some ⟨bo, oo, none⟩) no co) 15 (by kernel_rfl) (hcl.no 15 (by kernel_rfl) hl) rfl
                    rw [if_pos (by rfl)]
                    go_simp
                    exact hK _ _ (hJ.val HOK 11 _ hl (by kernel_rfl) (by kernel_rfl) rfl (Below.refl _ _))
                  case o10b_12 =>
                    intro LX V aX wX K hl hp hcl hf hJ hK
                    have t9 : aX.tmps[9]? = some (.int .i64 (k : Int)) := hf.old (by kernel_rfl) rfl
                    rw [if_pos (by rfl)]
                    go_simp
                    exact hK _ _ (hJ.val HOK 12 _ hl (by kernel_rfl) (by kernel_rfl) rfl (Below.refl _ _))
                  case o10b_13 =>
                    intro LX V aX wX K hl hp hcl hf hJ hK
                    have t89 := hf.in (i := 11) (d := 89) (by kernel_rfl) (hp 11 (by kernel_rfl)) (hJ.vals 11 _ rfl (hp 11 (by kernel_rfl)))
                    have t90 := hf.in (i := 12) (d := 90) (by kernel_rfl) (hp 12 (by kernel_rfl)) (hJ.vals 12 _ rfl (hp 12 (by kernel_rfl)))
                    have hk5 := HK5.out
                    obtain ⟨hk6, hk7, hk8, hk9, hk10, hk11⟩ := hk5
                    rw [if_pos (by rfl)]
                    go_simp
                    exact hK _ _ (hJ.val HOK 13 _ hl (by kernel_rfl) (by kernel_rfl) rfl (Below.refl _ _))
                  case o10b_14 =>
                    intro LX V aX wX K hl hp hcl hf hJ hK
                    have t88 := hf.in (i := 10) (d := 88) (by kernel_rfl) (hp 10 (by kernel_rfl)) rfl
                    have t91 := hf.in (i := 13) (d := 91) (by kernel_rfl) (hp 13 (by kernel_rfl)) (hJ.vals 13 _ rfl (hp 13 (by kernel_rfl)))
                    rw [if_pos (by rfl)]
                    have hq0 := hJ.at ⟨3, 10, 10, some 14, [], fun V w => OwnI w wy.heap.size (V 10) ([] ++ S.take k ++ [(xn : Int)])⟩ (List.mem_of_getElem? (i := 3) rfl) (lor (hp 10 (by kernel_rfl))) hl
                    refine opwp_append_intsF _ _ rfl wy.heap.size (V 10) ([] ++ S.take k ++ [(xn : Int)]) (eval_tmp t88) hq0 _ _ _ (S.drop k) (eval_tmp t91) (HDR.out _ hJ.below) (HLN3.out) hJ.below.size ?_
                    intro v' w' hown2 hgr hfr
                    exact hK _ _ (hJ.step HOK 14 v' hl (by kernel_rfl) trivial (V 10).ownBlock hgr (.inr ⟨⟨3, 10, 10, some 14, [], fun V w => OwnI w wy.heap.size (V 10) ([] ++ S.take k ++ [(xn : Int)])⟩, List.mem_of_getElem? (i := 3) rfl, rfl, lor (hp 10 (by kernel_rfl)), by (try simp only); exact OwnI.any hq0⟩) (new_one (by kernel_rfl) ⟨4, 14, 14, some 15, [], fun V w => OwnI w wy.heap.size (V 14) ([] ++ S.take k ++ [(xn : Int)] ++ S.drop k)⟩ (List.mem_of_getElem? (i := 4) rfl) rfl ⟨(fun j hj => by rcases hj with rfl | hj; exact .inl rfl; cases hj), by (try simp only); rw [upd_at]; exact hown2, fun g hg => by rw [upd_at, OwnI.any hown2] at hg; exact hfr g hg⟩))
                  case o10b_15 =>
                    intro LX V aX wX K hl hp hcl hf hJ hK
                    have t92 := hf.in (i := 14) (d := 92) (by kernel_rfl) (hp 14 (by kernel_rfl)) rfl
                    rw [if_pos (by rfl)]
                    have hq0 := hJ.at ⟨4, 14, 14, some 15, [], fun V w => OwnI w wy.heap.size (V 14) ([] ++ S.take k ++ [(xn : Int)] ++ S.drop k)⟩ (List.mem_of_getElem? (i := 4) rfl) (lor (hp 14 (by kernel_rfl))) hl
                    go_simp
                    exact hK _ _ (hJ.step HOK 15 _ hl (by kernel_rfl) trivial (ownAny (V 14)) ⟨rfl, rfl, rfl, Nat.le_refl _, fun _ _ _ => rfl⟩ (.inr ⟨⟨4, 14, 14, some 15, [], fun V w => OwnI w wy.heap.size (V 14) ([] ++ S.take k ++ [(xn : Int)] ++ S.drop k)⟩, List.mem_of_getElem? (i := 4) rfl, rfl, lor (hp 14 (by kernel_rfl)), rfl⟩) (new_one (by kernel_rfl) ⟨5, 15, 15, none, [], fun V w => OwnI w wy.heap.size (V 15) ([] ++ S.take k ++ [(xn : Int)] ++ S.drop k)⟩ (List.mem_of_getElem? (i := 5) rfl) rfl ⟨(fun j hj => by rcases hj with rfl | hj; exact .inl rfl; cases hj), by (try simp only); rw [upd_at]; exact hq0, fun g hg => .inr (by rw [upd_at] at hg; exact hg.symm ▸ rfl)⟩))
                intro V wZ hJ
                have hq := hJ.at ⟨5, 15, 15, none, [], fun V w => OwnI w wy.heap.size (V 15) ([] ++ S.take k ++ [(xn : Int)] ++ S.drop k)⟩ (List.mem_of_getElem? (i := 5) rfl) (by kernel_rfl) trivial
                have HZ := Lib.hid (And.intro hq hJ.below)
                simp only [puts, Act.put, List.setIfInBounds_toArray, List.set_cons_zero, List.set_cons_succ]
                clear hJ hq HOK
                go_wp2_with fail
                go_roundw
                case rel =>
                  have hb8 := HB1.out.trans (HB2.out.mono HB1.out.size)
                  exact ⟨i + 1, by omega, by go_num, Lib.hid ⟨_, HZ.out.1.base hb8.size, fun e => absurd e (by simp), HRS.out.1, HRS.out.2⟩, Lib.hid (hb8.trans (HZ.out.2.mono hb8.size))⟩
                case measure => simp [intOf]; omega
            · go_wp2_with fail
              have HOK : ∀ f ∈ ([] : List Fct), FctOk f := by
                intro f hf; cases hf
              refine wp_region_J (s := [(23, 0), (24, 1), (25, 2), (26, 3), (27, 4), (28, 5), (29, 6), (30, 7), (31, 8), (32, 9), (33, 10), (34, 11), (35, 12), (36, 13), (37, 14), (38, 15), (39, 16), (40, 17), (41, 18), (42, 19), (43, 20), (44, 21), (45, 22), (46, 23), (47, 24), (48, 25), (49, 26), (50, 27), (51, 28), (52, 29), (53, 30), (54, 31), (55, 32), (56, 33), (57, 34), (58, 35), (59, 36), (60, 37), (61, 38), (62, 39), (63, 40), (64, 41), (65, 42), (66, 43), (67, 44), (68, 45), (69, 46), (70, 47), (71, 48), (72, 49), (73, 50), (74, 51), (75, 52)]) (by kernel_rfl) (GrowJ wr (fun iX => match iX with | 0 => some (.int .i64 (k : Int)) | 1 => some (.bool true) | 2 => some (.bool true) | 3 => some (.slice (some ⟨bb, off, none⟩) n cap) | 4 => some (.slice (some ⟨pb, pf, none⟩) m pc) | 5 => some (.int .i64 (i : Int)) | 6 => some (.pointer (some ⟨pb, pf + i, none⟩)) | 7 => some (.int .i64 (xn : Int)) | 8 => some (.pointer (some ⟨bb, off + xn * 4, none⟩)) | 9 => some (.agg #[.int .i64 bx.1.x, .int .i64 bx.1.y, .int .i64 bx.2.x, .int .i64 bx.2.y]) | 10 => some (.slice (some ⟨bb, off, none⟩) n cap) | 11 => some (.slice (some ⟨bo, oo, none⟩) no co) | 12 => some (.int .i64 (k : Int)) | 13 => some (.int .i64 (k1 : Int)) | 14 => some (.pointer (some ⟨bo, oo + k1, none⟩)) | 15 => some (.int .i64 (yn : Int)) | 16 => some (.pointer (some ⟨bb, off + yn * 4, none⟩)) | 17 => some (.agg #[.int .i64 by_.1.x, .int .i64 by_.1.y, .int .i64 by_.2.x, .int .i64 by_.2.y]) | 18 => some (.int .i64 (lev : Int)) | 19 => some (.bool true) | 20 => some (.bool true) | 21 => some (undef) | 22 => some (undef) | 23 => some (undef) | 24 => some (undef) | 25 => some (undef) | 26 => some (undef) | 27 => some (undef) | 28 => some (undef) | 29 => some (undef) | 30 => some (undef) | 31 => some (undef) | 32 => some (undef) | 33 => some (undef) | 34 => some (undef) | 35 => some (undef) | 36 => some (undef) | 37 => some (undef) | 38 => some (undef) | 39 => some (undef) | 40 => some (undef) | 41 => some (undef) | 42 => some (undef) | 43 => some (undef) | 44 => some (undef) | 45 => some (undef) | 46 => some (undef) | 47 => some (undef) | 48 => some (undef) | 49 => some (undef) | 50 => some (undef) | 51 => some (.bool true) | 52 => some (.bool true) | _ => none) []) (by kernel_rfl) (by kernel_rfl) (by kernel_rfl) (by kernel_rfl) (fun _ => undef) ?start8one ?step8one ?done8one
              case start8one => exact GrowJ.start ((Below.refl _ _).drew)
              case step8one =>
                refine ⟨?o8one_0, ?o8one_1, ?o8one_2, ?o8one_3, ?o8one_4, ?o8one_5, ?o8one_6, ?o8one_7, ?o8one_8, ?o8one_9, ?o8one_10, ?o8one_11, ?o8one_12, ?o8one_13, ?o8one_14, ?o8one_15, ?o8one_16, ?o8one_17, ?o8one_18, ?o8one_19, ?o8one_20, ?o8one_21, ?o8one_22, ?o8one_23, ?o8one_24, ?o8one_25, ?o8one_26, ?o8one_27, ?o8one_28, ?o8one_29, ?o8one_30, ?o8one_31, ?o8one_32, ?o8one_33, ?o8one_34, ?o8one_35, ?o8one_36, ?o8one_37, ?o8one_38, ?o8one_39, ?o8one_40, ?o8one_41, ?o8one_42, ?o8one_43, ?o8one_44, ?o8one_45, ?o8one_46, ?o8one_47, ?o8one_48, ?o8one_49, ?o8one_50, ?o8one_51, ?o8one_52, trivial⟩
                case o8one_0 =>
                  intro LX V aX wX K hl hp hcl hf hJ hK
                  have t9 : aX.tmps[9]? = some (.int .i64 (k : Int)) := hf.old (by kernel_rfl) rfl
                  rw [if_pos (by rfl)]
                  go_simp
                  exact hK _ _ (hJ.val HOK 0 _ (by kernel_rfl) rfl (Below.refl _ _))
                case o8one_1 =>
                  intro LX V aX wX K hl hp hcl hf hJ hK
                  have t23 := hf.in (i := 0) (d := 23) (by kernel_rfl) (hp 0 (by kernel_rfl)) (hJ.vals 0 _ rfl (hp 0 (by kernel_rfl)))
                  obtain ⟨⟨u1, u0⟩, u2, u3, u4, u5, u6, u7, u8, u9, u10⟩ := HNUM.out
                  rw [if_pos (by rfl)]
                  go_simp
                  exact hK _ _ (hJ.val HOK 1 _ (by kernel_rfl) rfl (Below.refl _ _))
                case o8one_2 =>
                  intro LX V aX wX K hl hp hcl hf hJ hK
                  have t24 := hf.in (i := 1) (d := 24) (by kernel_rfl) (hp 1 (by kernel_rfl)) (hJ.vals 1 _ rfl (hp 1 (by kernel_rfl)))
                  rw [if_pos (by rfl)]
                  go_simp
                  exact hK _ _ (hJ.val HOK 2 _ (by kernel_rfl) rfl (Below.refl _ _))
                case o8one_3 =>
                  intro LX V aX wX K hl hp hcl hf hJ hK
                  have t0 : aX.tmps[0]? = some (.slice (some ⟨bb, off, none⟩) n cap) := hf.old (by kernel_rfl) rfl
                  have t25 := hf.in (i := 2) (d := 25) (by kernel_rfl) (hp 2 (by kernel_rfl)) (hJ.vals 2 _ rfl (hp 2 (by kernel_rfl)))
                  rw [if_pos (wanted_of rfl rfl t25)]
                  go_simp
                  exact hK _ _ (hJ.val HOK 3 _ (by kernel_rfl) rfl (Below.refl _ _))
                case o8one_4 =>
                  intro LX V aX wX K hl hp hcl hf hJ hK
                  have t1 : aX.tmps[1]? = some (.slice (some ⟨pb, pf, none⟩) m pc) := hf.old (by kernel_rfl) rfl
                  have t25 := hf.in (i := 2) (d := 25) (by kernel_rfl) (hp 2 (by kernel_rfl)) (hJ.vals 2 _ rfl (hp 2 (by kernel_rfl)))
                  rw [if_pos (wanted_of rfl rfl t25)]
                  go_simp
                  exact hK _ _ (hJ.val HOK 4 _ (by kernel_rfl) rfl (Below.refl _ _))
                case o8one_5 =>
                  intro LX V aX wX K hl hp hcl hf hJ hK
                  have t8 : aX.tmps[8]? = some (.int .i64 (i : Int)) := hf.old (by kernel_rfl) rfl
                  have t25 := hf.in (i := 2) (d := 25) (by kernel_rfl) (hp 2 (by kernel_rfl)) (hJ.vals 2 _ rfl (hp 2 (by kernel_rfl)))
                  rw [if_pos (wanted_of rfl rfl t25)]
                  go_simp
                  exact hK _ _ (hJ.val HOK 5 _ (by kernel_rfl) rfl (Below.refl _ _))
                case o8one_6 =>
                  intro LX V aX wX K hl hp hcl hf hJ hK
                  have t27 := hf.in (i := 4) (d := 27) (by kernel_rfl) (hp 4 (by kernel_rfl)) (hJ.vals 4 _ rfl (hp 4 (by kernel_rfl)))
                  have t28 := hf.in (i := 5) (d := 28) (by kernel_rfl) (hp 5 (by kernel_rfl)) (hJ.vals 5 _ rfl (hp 5 (by kernel_rfl)))
                  have t25 := hf.in (i := 2) (d := 25) (by kernel_rfl) (hp 2 (by kernel_rfl)) (hJ.vals 2 _ rfl (hp 2 (by kernel_rfl)))
                  obtain ⟨⟨u1, u0⟩, u2, u3, u4, u5, u6, u7, u8, u9, u10⟩ := HNUM.out
                  rw [if_pos (wanted_of rfl rfl t25)]
                  go_simp
                  exact hK _ _ (hJ.val HOK 6 _ (by kernel_rfl) rfl (Below.refl _ _))
                case o8one_7 =>
                  intro LX V aX wX K hl hp hcl hf hJ hK
                  have t29 := hf.in (i := 6) (d := 29) (by kernel_rfl) (hp 6 (by kernel_rfl)) (hJ.vals 6 _ rfl (hp 6 (by kernel_rfl)))
                  have t25 := hf.in (i := 2) (d := 25) (by kernel_rfl) (hp 2 (by kernel_rfl)) (hJ.vals 2 _ rfl (hp 2 (by kernel_rfl)))
                  obtain ⟨⟨c0, c1⟩, ⟨x0, x1, x2, x3⟩, ⟨y0, y1, y2, y3⟩⟩ := HCE.out wX hJ.below
                  rw [if_pos (wanted_of rfl rfl t25)]
                  go_simp
                  exact hK _ _ (hJ.val HOK 7 _ (by kernel_rfl) rfl (Below.refl _ _))
                case o8one_8 =>
                  intro LX V aX wX K hl hp hcl hf hJ hK
                  have t26 := hf.in (i := 3) (d := 26) (by kernel_rfl) (hp 3 (by kernel_rfl)) (hJ.vals 3 _ rfl (hp 3 (by kernel_rfl)))
                  have t30 := hf.in (i := 7) (d := 30) (by kernel_rfl) (hp 7 (by kernel_rfl)) (hJ.vals 7 _ rfl (hp 7 (by kernel_rfl)))
                  have t25 := hf.in (i := 2) (d := 25) (by kernel_rfl) (hp 2 (by kernel_rfl)) (hJ.vals 2 _ rfl (hp 2 (by kernel_rfl)))
                  obtain ⟨⟨u1, u0⟩, u2, u3, u4, u5, u6, u7, u8, u9, u10⟩ := HNUM.out
                  rw [if_pos (wanted_of rfl rfl t25)]
                  go_simp
                  exact hK _ _ (hJ.val HOK 8 _ (by kernel_rfl) rfl (Below.refl _ _))
                case o8one_9 =>
                  intro LX V aX wX K hl hp hcl hf hJ hK
                  have t31 := hf.in (i := 8) (d := 31) (by kernel_rfl) (hp 8 (by kernel_rfl)) (hJ.vals 8 _ rfl (hp 8 (by kernel_rfl)))
                  have t25 := hf.in (i := 2) (d := 25) (by kernel_rfl) (hp 2 (by kernel_rfl)) (hJ.vals 2 _ rfl (hp 2 (by kernel_rfl)))
                  obtain ⟨⟨c0, c1⟩, ⟨x0, x1, x2, x3⟩, ⟨y0, y1, y2, y3⟩⟩ := HCE.out wX hJ.below
                  rw [if_pos (wanted_of rfl rfl t25)]
                  go_simp
                  exact hK _ _ (hJ.val HOK 9 _ (by kernel_rfl) rfl (Below.refl _ _))
                case o8one_10 =>
                  intro LX V aX wX K hl hp hcl hf hJ hK
                  have t0 : aX.tmps[0]? = some (.slice (some ⟨bb, off, none⟩) n cap) := hf.old (by kernel_rfl) rfl
                  have t25 := hf.in (i := 2) (d := 25) (by kernel_rfl) (hp 2 (by kernel_rfl)) (hJ.vals 2 _ rfl (hp 2 (by kernel_rfl)))
                  rw [if_pos (wanted_of rfl rfl t25)]
                  go_simp
                  exact hK _ _ (hJ.val HOK 10 _ (by kernel_rfl) rfl (Below.refl _ _))
                case o8one_11 =>
                  intro LX V aX wX K hl hp hcl hf hJ hK
                  have t7 : aX.tmps[7]? = some (.slice (some ⟨bo, oo, none⟩) no co) := hf.old (by kernel_rfl) rfl
                  have t25 := hf.in (i := 2) (d := 25) (by kernel_rfl) (hp 2 (by kernel_rfl)) (hJ.vals 2 _ rfl (hp 2 (by kernel_rfl)))
                  rw [if_pos (wanted_of rfl rfl t25)]
                  go_simp
                  exact hK _ _ (hJ.val HOK 11 _ (by kernel_rfl) rfl (Below.refl _ _))
                case o8one_12 =>
                  intro LX V aX wX K hl hp hcl hf hJ hK
                  have t9 : aX.tmps[9]? = some (.int .i64 (k : Int)) := hf.old (by kernel_rfl) rfl
                  have t25 := hf.in (i := 2) (d := 25) (by kernel_rfl) (hp 2 (by kernel_rfl)) (hJ.vals 2 _ rfl (hp 2 (by kernel_rfl)))
                  rw [if_pos (wanted_of rfl rfl t25)]
                  go_simp
                  exact hK _ _ (hJ.val HOK 12 _ (by kernel_rfl) rfl (Below.refl _ _))
                case o8one_13 =>
                  intro LX V aX wX K hl hp hcl hf hJ hK
                  have t35 := hf.in (i := 12) (d := 35) (by kernel_rfl) (hp 12 (by kernel_rfl)) (hJ.vals 12 _ rfl (hp 12 (by kernel_rfl)))
                  have t25 := hf.in (i := 2) (d := 25) (by kernel_rfl) (hp 2 (by kernel_rfl)) (hJ.vals 2 _ rfl (hp 2 (by kernel_rfl)))
                  obtain ⟨⟨u1, u0⟩, u2, u3, u4, u5, u6, u7, u8, u9, u10⟩ := HNUM.out
                  rw [if_pos (wanted_of rfl rfl t25)]
                  go_simp
                  exact hK _ _ (hJ.val HOK 13 _ (by kernel_rfl) rfl (Below.refl _ _))
                case o8one_14 =>
                  intro LX V aX wX K hl hp hcl hf hJ hK
                  have t34 := hf.in (i := 11) (d := 34) (by kernel_rfl) (hp 11 (by kernel_rfl)) (hJ.vals 11 _ rfl (hp 11 (by kernel_rfl)))
                  have t36 := hf.in (i := 13) (d := 36) (by kernel_rfl) (hp 13 (by kernel_rfl)) (hJ.vals 13 _ rfl (hp 13 (by kernel_rfl)))
                  have t25 := hf.in (i := 2) (d := 25) (by kernel_rfl) (hp 2 (by kernel_rfl)) (hJ.vals 2 _ rfl (hp 2 (by kernel_rfl)))
                  obtain ⟨⟨u1, u0⟩, u2, u3, u4, u5, u6, u7, u8, u9, u10⟩ := HNUM.out
                  rw [if_pos (wanted_of rfl rfl t25)]
                  go_simp
                  exact hK _ _ (hJ.val HOK 14 _ (by kernel_rfl) rfl (Below.refl _ _))
                case o8one_15 =>
                  intro LX V aX wX K hl hp hcl hf hJ hK
                  have t37 := hf.in (i := 14) (d := 37) (by kernel_rfl) (hp 14 (by kernel_rfl)) (hJ.vals 14 _ rfl (hp 14 (by kernel_rfl)))
                  have t25 := hf.in (i := 2) (d := 25) (by kernel_rfl) (hp 2 (by kernel_rfl)) (hJ.vals 2 _ rfl (hp 2 (by kernel_rfl)))
                  obtain ⟨⟨c0, c1⟩, ⟨x0, x1, x2, x3⟩, ⟨y0, y1, y2, y3⟩⟩ := HCE.out wX hJ.below
                  rw [if_pos (wanted_of rfl rfl t25)]
                  go_simp
                  exact hK _ _ (hJ.val HOK 15 _ (by kernel_rfl) rfl (Below.refl _ _))
                case o8one_16 =>
                  intro LX V aX wX K hl hp hcl hf hJ hK
                  have t33 := hf.in (i := 10) (d := 33) (by kernel_rfl) (hp 10 (by kernel_rfl)) (hJ.vals 10 _ rfl (hp 10 (by kernel_rfl)))
                  have t38 := hf.in (i := 15) (d := 38) (by kernel_rfl) (hp 15 (by kernel_rfl)) (hJ.vals 15 _ rfl (hp 15 (by kernel_rfl)))
                  have t25 := hf.in (i := 2) (d := 25) (by kernel_rfl) (hp 2 (by kernel_rfl)) (hJ.vals 2 _ rfl (hp 2 (by kernel_rfl)))
                  obtain ⟨⟨u1, u0⟩, u2, u3, u4, u5, u6, u7, u8, u9, u10⟩ := HNUM.out
                  rw [if_pos (wanted_of rfl rfl t25)]
                  go_simp
                  exact hK _ _ (hJ.val HOK 16 _ (by kernel_rfl) rfl (Below.refl _ _))
                case o8one_17 =>
                  intro LX V aX wX K hl hp hcl hf hJ hK
                  have t39 := hf.in (i := 16) (d := 39) (by kernel_rfl) (hp 16 (by kernel_rfl)) (hJ.vals 16 _ rfl (hp 16 (by kernel_rfl)))
                  have t25 := hf.in (i := 2) (d := 25) (by kernel_rfl) (hp 2 (by kernel_rfl)) (hJ.vals 2 _ rfl (hp 2 (by kernel_rfl)))
                  obtain ⟨⟨c0, c1⟩, ⟨x0, x1, x2, x3⟩, ⟨y0, y1, y2, y3⟩⟩ := HCE.out wX hJ.below
                  rw [if_pos (wanted_of rfl rfl t25)]
                  go_simp
                  exact hK _ _ (hJ.val HOK 17 _ (by kernel_rfl) rfl (Below.refl _ _))
                case o8one_18 =>
                  intro LX V aX wX K hl hp hcl hf hJ hK
                  have t2 : aX.tmps[2]? = some (.int .i64 (lev : Int)) := hf.old (by kernel_rfl) rfl
                  have t25 := hf.in (i := 2) (d := 25) (by kernel_rfl) (hp 2 (by kernel_rfl)) (hJ.vals 2 _ rfl (hp 2 (by kernel_rfl)))
                  rw [if_pos (wanted_of rfl rfl t25)]
                  go_simp
                  exact hK _ _ (hJ.val HOK 18 _ (by kernel_rfl) rfl (Below.refl _ _))
                case o8one_19 =>
                  intro LX V aX wX K hl hp hcl hf hJ hK
                  have t32 := hf.in (i := 9) (d := 32) (by kernel_rfl) (hp 9 (by kernel_rfl)) (hJ.vals 9 _ rfl (hp 9 (by kernel_rfl)))
                  have t40 := hf.in (i := 17) (d := 40) (by kernel_rfl) (hp 17 (by kernel_rfl)) (hJ.vals 17 _ rfl (hp 17 (by kernel_rfl)))
                  have t41 := hf.in (i := 18) (d := 41) (by kernel_rfl) (hp 18 (by kernel_rfl)) (hJ.vals 18 _ rfl (hp 18 (by kernel_rfl)))
                  have t25 := hf.in (i := 2) (d := 25) (by kernel_rfl) (hp 2 (by kernel_rfl)) (hJ.vals 2 _ rfl (hp 2 (by kernel_rfl)))
                  rw [if_pos (wanted_of rfl rfl t25)]
                  go_simp
                  refine (HA1.out _ hJ.below).mono ?_
                  rintro e wA ⟨rfl, hbA⟩
                  exact hK _ _ (hJ.val HOK 19 _ (by kernel_rfl) rfl (hbA))
                case o8one_20 =>
                  intro LX V aX wX K hl hp hcl hf hJ hK
                  have t42 := hf.in (i := 19) (d := 42) (by kernel_rfl) (hp 19 (by kernel_rfl)) (hJ.vals 19 _ rfl (hp 19 (by kernel_rfl)))
                  have t25 := hf.in (i := 2) (d := 25) (by kernel_rfl) (hp 2 (by kernel_rfl)) (hJ.vals 2 _ rfl (hp 2 (by kernel_rfl)))
                  rw [if_pos (wanted_of rfl rfl t25)]
                  go_simp
                  exact hK _ _ (hJ.val HOK 20 _ (by kernel_rfl) rfl (Below.refl _ _))
                case o8one_21 =>
                  intro LX V aX wX K hl hp hcl hf hJ hK
                  have t43 := hf.in (i := 20) (d := 43) (by kernel_rfl) (hp 20 (by kernel_rfl)) (hJ.vals 20 _ rfl (hp 20 (by kernel_rfl)))
                  rw [if_neg (by rw [wanted_not (b := false) rfl rfl t43]; exact Bool.false_ne_true)]
                  exact hK _ _ (hJ.val HOK 21 _ (by kernel_rfl) rfl (Below.refl _ _))
                case o8one_22 =>
                  intro LX V aX wX K hl hp hcl hf hJ hK
                  have t43 := hf.in (i := 20) (d := 43) (by kernel_rfl) (hp 20 (by kernel_rfl)) (hJ.vals 20 _ rfl (hp 20 (by kernel_rfl)))
                  rw [if_neg (by rw [wanted_not (b := false) rfl rfl t43]; exact Bool.false_ne_true)]
                  exact hK _ _ (hJ.val HOK 22 _ (by kernel_rfl) rfl (Below.refl _ _))
                case o8one_23 =>
                  intro LX V aX wX K hl hp hcl hf hJ hK
                  have t43 := hf.in (i := 20) (d := 43) (by kernel_rfl) (hp 20 (by kernel_rfl)) (hJ.vals 20 _ rfl (hp 20 (by kernel_rfl)))
                  rw [if_neg (by rw [wanted_not (b := false) rfl rfl t43]; exact Bool.false_ne_true)]
                  exact hK _ _ (hJ.val HOK 23 _ (by kernel_rfl) rfl (Below.refl _ _))
                case o8one_24 =>
                  intro LX V aX wX K hl hp hcl hf hJ hK
                  have t43 := hf.in (i := 20) (d := 43) (by kernel_rfl) (hp 20 (by kernel_rfl)) (hJ.vals 20 _ rfl (hp 20 (by kernel_rfl)))
                  rw [if_neg (by rw [wanted_not (b := false) rfl rfl t43]; exact Bool.false_ne_true)]
                  exact hK _ _ (hJ.val HOK 24 _ (by kernel_rfl) rfl (Below.refl _ _))
                case o8one_25 =>
                  intro LX V aX wX K hl hp hcl hf hJ hK
                  have t43 := hf.in (i := 20) (d := 43) (by kernel_rfl) (hp 20 (by kernel_rfl)) (hJ.vals 20 _ rfl (hp 20 (by kernel_rfl)))
                  rw [if_neg (by rw [wanted_not (b := false) rfl rfl t43]; exact Bool.false_ne_true)]
                  exact hK _ _ (hJ.val HOK 25 _ (by kernel_rfl) rfl (Below.refl _ _))
                case o8one_26 =>
                  intro LX V aX wX K hl hp hcl hf hJ hK
                  have t43 := hf.in (i := 20) (d := 43) (by kernel_rfl) (hp 20 (by kernel_rfl)) (hJ.vals 20 _ rfl (hp 20 (by kernel_rfl)))
                  rw [if_neg (by rw [wanted_not (b := false) rfl rfl t43]; exact Bool.false_ne_true)]
                  exact hK _ _ (hJ.val HOK 26 _ (by kernel_rfl) rfl (Below.refl _ _))
                case o8one_27 =>
                  intro LX V aX wX K hl hp hcl hf hJ hK
                  have t43 := hf.in (i := 20) (d := 43) (by kernel_rfl) (hp 20 (by kernel_rfl)) (hJ.vals 20 _ rfl (hp 20 (by kernel_rfl)))
                  rw [if_neg (by rw [wanted_not (b := false) rfl rfl t43]; exact Bool.false_ne_true)]
                  exact hK _ _ (hJ.val HOK 27 _ (by kernel_rfl) rfl (Below.refl _ _))
                case o8one_28 =>
                  intro LX V aX wX K hl hp hcl hf hJ hK
                  have t43 := hf.in (i := 20) (d := 43) (by kernel_rfl) (hp 20 (by kernel_rfl)) (hJ.vals 20 _ rfl (hp 20 (by kernel_rfl)))
                  rw [if_neg (by rw [wanted_not (b := false) rfl rfl t43]; exact Bool.false_ne_true)]
                  exact hK _ _ (hJ.val HOK 28 _ (by kernel_rfl) rfl (Below.refl _ _))
                case o8one_29 =>
                  intro LX V aX wX K hl hp hcl hf hJ hK
                  have t43 := hf.in (i := 20) (d := 43) (by kernel_rfl) (hp 20 (by kernel_rfl)) (hJ.vals 20 _ rfl (hp 20 (by kernel_rfl)))
                  rw [if_neg (by rw [wanted_not (b := false) rfl rfl t43]; exact Bool.false_ne_true)]
                  exact hK _ _ (hJ.val HOK 29 _ (by kernel_rfl) rfl (Below.refl _ _))
                case o8one_30 =>
                  intro LX V aX wX K hl hp hcl hf hJ hK
                  have t43 := hf.in (i := 20) (d := 43) (by kernel_rfl) (hp 20 (by kernel_rfl)) (hJ.vals 20 _ rfl (hp 20 (by kernel_rfl)))
                  rw [if_neg (by rw [wanted_not (b := false) rfl rfl t43]; exact Bool.false_ne_true)]
                  exact hK _ _ (hJ.val HOK 30 _ (by kernel_rfl) rfl (Below.refl _ _))
                case o8one_31 =>
                  intro LX V aX wX K hl hp hcl hf hJ hK
                  have t43 := hf.in (i := 20) (d := 43) (by kernel_rfl) (hp 20 (by kernel_rfl)) (hJ.vals 20 _ rfl (hp 20 (by kernel_rfl)))
                  rw [if_neg (by rw [wanted_not (b := false) rfl rfl t43]; exact Bool.false_ne_true)]
                  exact hK _ _ (hJ.val HOK 31 _ (by kernel_rfl) rfl (Below.refl _ _))
                case o8one_32 =>
                  intro LX V aX wX K hl hp hcl hf hJ hK
                  have t43 := hf.in (i := 20) (d := 43) (by kernel_rfl) (hp 20 (by kernel_rfl)) (hJ.vals 20 _ rfl (hp 20 (by kernel_rfl)))
                  rw [if_neg (by rw [wanted_not (b := false) rfl rfl t43]; exact Bool.false_ne_true)]
                  exact hK _ _ (hJ.val HOK 32 _ (by kernel_rfl) rfl (Below.refl _ _))
                case o8one_33 =>
                  intro LX V aX wX K hl hp hcl hf hJ hK
                  have t43 := hf.in (i := 20) (d := 43) (by kernel_rfl) (hp 20 (by kernel_rfl)) (hJ.vals 20 _ rfl (hp 20 (by kernel_rfl)))
                  rw [if_neg (by rw [wanted_not (b := false) rfl rfl t43]; exact Bool.false_ne_true)]
                  exact hK _ _ (hJ.val HOK 33 _ (by kernel_rfl) rfl (Below.refl _ _))
                case o8one_34 =>
                  intro LX V aX wX K hl hp hcl hf hJ hK
                  have t43 := hf.in (i := 20) (d := 43) (by kernel_rfl) (hp 20 (by kernel_rfl)) (hJ.vals 20 _ rfl (hp 20 (by kernel_rfl)))
                  rw [if_neg (by rw [wanted_not (b := false) rfl rfl t43]; exact Bool.false_ne_true)]
                  exact hK _ _ (hJ.val HOK 34 _ (by kernel_rfl) rfl (Below.refl _ _))
                case o8one_35 =>
                  intro LX V aX wX K hl hp hcl hf hJ hK
                  have t43 := hf.in (i := 20) (d := 43) (by kernel_rfl) (hp 20 (by kernel_rfl)) (hJ.vals 20 _ rfl (hp 20 (by kernel_rfl)))
                  rw [if_neg (by rw [wanted_not (b := false) rfl rfl t43]; exact Bool.false_ne_true)]
                  exact hK _ _ (hJ.val HOK 35 _ (by kernel_rfl) rfl (Below.refl _ _))
                case o8one_36 =>
                  intro LX V aX wX K hl hp hcl hf hJ hK
                  have t43 := hf.in (i := 20) (d := 43) (by kernel_rfl) (hp 20 (by kernel_rfl)) (hJ.vals 20 _ rfl (hp 20 (by kernel_rfl)))
                  rw [if_neg (by rw [wanted_not (b := false) rfl rfl t43]; exact Bool.false_ne_true)]
                  exact hK _ _ (hJ.val HOK 36 _ (by kernel_rfl) rfl (Below.refl _ _))
                case o8one_37 =>
                  intro LX V aX wX K hl hp hcl hf hJ hK
                  have t43 := hf.in (i := 20) (d := 43) (by kernel_rfl) (hp 20 (by kernel_rfl)) (hJ.vals 20 _ rfl (hp 20 (by kernel_rfl)))
                  rw [if_neg (by rw [wanted_not (b := false) rfl rfl t43]; exact Bool.false_ne_true)]
                  exact hK _ _ (hJ.val HOK 37 _ (by kernel_rfl) rfl (Below.refl _ _))
                case o8one_38 =>
                  intro LX V aX wX K hl hp hcl hf hJ hK
                  have t43 := hf.in (i := 20) (d := 43) (by kernel_rfl) (hp 20 (by kernel_rfl)) (hJ.vals 20 _ rfl (hp 20 (by kernel_rfl)))
                  rw [if_neg (by rw [wanted_not (b := false) rfl rfl t43]; exact Bool.false_ne_true)]
                  exact hK _ _ (hJ.val HOK 38 _ (by kernel_rfl) rfl (Below.refl _ _))
                case o8one_39 =>
                  intro LX V aX wX K hl hp hcl hf hJ hK
                  have t43 := hf.in (i := 20) (d := 43) (by kernel_rfl) (hp 20 (by kernel_rfl)) (hJ.vals 20 _ rfl (hp 20 (by kernel_rfl)))
                  rw [if_neg (by rw [wanted_not (b := false) rfl rfl t43]; exact Bool.false_ne_true)]
                  exact hK _ _ (hJ.val HOK 39 _ (by kernel_rfl) rfl (Below.refl _ _))
                case o8one_40 =>
                  intro LX V aX wX K hl hp hcl hf hJ hK
                  have t62 := hf.in (i := 39) (d := 62) (by kernel_rfl) (hp 39 (by kernel_rfl)) (hJ.vals 39 _ rfl (hp 39 (by kernel_rfl)))
                  rw [if_neg (by rw [wanted_none rfl rfl t62]; exact Bool.false_ne_true)]
                  exact hK _ _ (hJ.val HOK 40 _ (by kernel_rfl) rfl (Below.refl _ _))
                case o8one_41 =>
                  intro LX V aX wX K hl hp hcl hf hJ hK
                  have t62 := hf.in (i := 39) (d := 62) (by kernel_rfl) (hp 39 (by kernel_rfl)) (hJ.vals 39 _ rfl (hp 39 (by kernel_rfl)))
                  rw [if_neg (by rw [wanted_none rfl rfl t62]; exact Bool.false_ne_true)]
                  exact hK _ _ (hJ.val HOK 41 _ (by kernel_rfl) rfl (Below.refl _ _))
                case o8one_42 =>
                  intro LX V aX wX K hl hp hcl hf hJ hK
                  have t62 := hf.in (i := 39) (d := 62) (by kernel_rfl) (hp 39 (by kernel_rfl)) (hJ.vals 39 _ rfl (hp 39 (by kernel_rfl)))
                  rw [if_neg (by rw [wanted_none rfl rfl t62]; exact Bool.false_ne_true)]
                  exact hK _ _ (hJ.val HOK 42 _ (by kernel_rfl) rfl (Below.refl _ _))
                case o8one_43 =>
                  intro LX V aX wX K hl hp hcl hf hJ hK
                  have t62 := hf.in (i := 39) (d := 62) (by kernel_rfl) (hp 39 (by kernel_rfl)) (hJ.vals 39 _ rfl (hp 39 (by kernel_rfl)))
                  rw [if_neg (by rw [wanted_none rfl rfl t62]; exact Bool.false_ne_true)]
                  exact hK _ _ (hJ.val HOK 43 _ (by kernel_rfl) rfl (Below.refl _ _))
                case o8one_44 =>
                  intro LX V aX wX K hl hp hcl hf hJ hK
                  have t62 := hf.in (i := 39) (d := 62) (by kernel_rfl) (hp 39 (by kernel_rfl)) (hJ.vals 39 _ rfl (hp 39 (by kernel_rfl)))
                  rw [if_neg (by rw [wanted_none rfl rfl t62]; exact Bool.false_ne_true)]
                  exact hK _ _ (hJ.val HOK 44 _ (by kernel_rfl) rfl (Below.refl _ _))
                case o8one_45 =>
                  intro LX V aX wX K hl hp hcl hf hJ hK
                  have t62 := hf.in (i := 39) (d := 62) (by kernel_rfl) (hp 39 (by kernel_rfl)) (hJ.vals 39 _ rfl (hp 39 (by kernel_rfl)))
                  rw [if_neg (by rw [wanted_none rfl rfl t62]; exact Bool.false_ne_true)]
                  exact hK _ _ (hJ.val HOK 45 _ (by kernel_rfl) rfl (Below.refl _ _))
                case o8one_46 =>
                  intro LX V aX wX K hl hp hcl hf hJ hK
                  have t62 := hf.in (i := 39) (d := 62) (by kernel_rfl) (hp 39 (by kernel_rfl)) (hJ.vals 39 _ rfl (hp 39 (by kernel_rfl)))
                  rw [if_neg (by rw [wanted_none rfl rfl t62]; exact Bool.false_ne_true)]
                  exact hK _ _ (hJ.val HOK 46 _ (by kernel_rfl) rfl (Below.refl _ _))
                case o8one_47 =>
                  intro LX V aX wX K hl hp hcl hf hJ hK
                  have t62 := hf.in (i := 39) (d := 62) (by kernel_rfl) (hp 39 (by kernel_rfl)) (hJ.vals 39 _ rfl (hp 39 (by kernel_rfl)))
                  rw [if_neg (by rw [wanted_none rfl rfl t62]; exact Bool.false_ne_true)]
                  exact hK _ _ (hJ.val HOK 47 _ (by kernel_rfl) rfl (Below.refl _ _))
                case o8one_48 =>
                  intro LX V aX wX K hl hp hcl hf hJ hK
                  have t62 := hf.in (i := 39) (d := 62) (by kernel_rfl) (hp 39 (by kernel_rfl)) (hJ.vals 39 _ rfl (hp 39 (by kernel_rfl)))
                  rw [if_neg (by rw [wanted_none rfl rfl t62]; exact Bool.false_ne_true)]
                  exact hK _ _ (hJ.val HOK 48 _ (by kernel_rfl) rfl (Below.refl _ _))
                case o8one_49 =>
                  intro LX V aX wX K hl hp hcl hf hJ hK
                  have t62 := hf.in (i := 39) (d := 62) (by kernel_rfl) (hp 39 (by kernel_rfl)) (hJ.vals 39 _ rfl (hp 39 (by kernel_rfl)))
                  rw [if_neg (by rw [wanted_none rfl rfl t62]; exact Bool.false_ne_true)]
                  exact hK _ _ (hJ.val HOK 49 _ (by kernel_rfl) rfl (Below.refl _ _))
                case o8one_50 =>
                  intro LX V aX wX K hl hp hcl hf hJ hK
                  have t43 := hf.in (i := 20) (d := 43) (by kernel_rfl) (hp 20 (by kernel_rfl)) (hJ.vals 20 _ rfl (hp 20 (by kernel_rfl)))
                  rw [if_neg (by rw [wanted_not (b := false) rfl rfl t43]; exact Bool.false_ne_true)]
                  exact hK _ _ (hJ.val HOK 50 _ (by kernel_rfl) rfl (Below.refl _ _))
                case o8one_51 =>
                  intro LX V aX wX K hl hp hcl hf hJ hK
                  have t43 := hf.in (i := 20) (d := 43) (by kernel_rfl) (hp 20 (by kernel_rfl)) (hJ.vals 20 _ rfl (hp 20 (by kernel_rfl)))
                  have t73 := hf.in (i := 50) (d := 73) (by kernel_rfl) (hp 50 (by kernel_rfl)) (hJ.vals 50 _ rfl (hp 50 (by kernel_rfl)))
                  have t25 := hf.in (i := 2) (d := 25) (by kernel_rfl) (hp 2 (by kernel_rfl)) (hJ.vals 2 _ rfl (hp 2 (by kernel_rfl)))
                  rw [if_pos (wanted_of rfl rfl t25)]
                  go_simp
                  exact hK _ _ (hJ.val HOK 51 _ (by kernel_rfl) rfl (Below.refl _ _))
                case o8one_52 =>
                  intro LX V aX wX K hl hp hcl hf hJ hK
                  have t25 := hf.in (i := 2) (d := 25) (by kernel_rfl) (hp 2 (by kernel_rfl)) (hJ.vals 2 _ rfl (hp 2 (by kernel_rfl)))
                  have t74 := hf.in (i := 51) (d := 74) (by kernel_rfl) (hp 51 (by kernel_rfl)) (hJ.vals 51 _ rfl (hp 51 (by kernel_rfl)))
                  rw [if_pos (by rfl)]
                  go_simp
                  exact hK _ _ (hJ.val HOK 52 _ (by kernel_rfl) rfl (Below.refl _ _))
              intro V wZ hJ
              have hv := hJ.vals 52 _ rfl (by kernel_rfl)
              have HBY := Lib.hid hJ.below
              simp only [puts, Act.put, List.setIfInBounds_toArray, List.set_cons_zero, List.set_cons_succ]
              rw [hv]
              clear hJ HOK hv
              obtain ⟨wy, hwy⟩ : ∃ wy, wy = wZ := ⟨_, rfl⟩
              rw [← hwy] at HBY ⊢
              clear hwy
              have hwk := HWK.out
              go_wp2_with fail
              go_roundw
              case rel => exact ⟨k1, by have := HK1.out; omega, by go_num, Lib.hid (HDRP.out (HLT.out.1 (by simp))), Lib.hid (hbk.out.trans (HBY.out.mono hbk.out.size))⟩
              case measure => have := HK1.out; simp [intOf]; omega
          · have HRS := Lib.hid (HSTEP.out k (by rw [← HNO.out]; exact hkn) hup.out (.inl (by omega)))
            have hkp5 : ¬ (0 : Int) < (k : Int) := by omega
            have HKZ := Lib.hid hkp5
            clear hup hkn hkp hkp5
            go_wp2_with fail
            have HOK : ∀ f ∈ ([] : List Fct), FctOk f := by
              intro f hf; cases hf
            refine wp_region_J (s := [(23, 0), (24, 1), (25, 2), (26, 3), (27, 4), (28, 5), (29, 6), (30, 7), (31, 8), (32, 9), (33, 10), (34, 11), (35, 12), (36, 13), (37, 14), (38, 15), (39, 16), (40, 17), (41, 18), (42, 19), (43, 20), (44, 21), (45, 22), (46, 23), (47, 24), (48, 25), (49, 26), (50, 27), (51, 28), (52, 29), (53, 30), (54, 31), (55, 32), (56, 33), (57, 34), (58, 35), (59, 36), (60, 37), (61, 38), (62, 39), (63, 40), (64, 41), (65, 42), (66, 43), (67, 44), (68, 45), (69, 46), (70, 47), (71, 48), (72, 49), (73, 50), (74, 51), (75, 52)]) (by kernel_rfl) (GrowJ wr (fun iX => match iX with | 0 => some (.int .i64 (k : Int)) | 1 => some (.bool false) | 2 => some (.bool false) | 3 => some (undef) | 4 => some (undef) | 5 => some (undef) | 6 => some (undef) | 7 => some (undef) | 8 => some (undef) | 9 => some (undef) | 10 => some (undef) | 11 => some (undef) | 12 => some (undef) | 13 => some (undef) | 14 => some (undef) | 15 => some (undef) | 16 => some (undef) | 17 => some (undef) | 18 => some (undef) | 19 => some (undef) | 20 => some (undef) | 21 => some (undef) | 22 => some (undef) | 23 => some (undef) | 24 => some (undef) | 25 => some (undef) | 26 => some (undef) | 27 => some (undef) | 28 => some (undef) | 29 => some (undef) | 30 => some (undef) | 31 => some (undef) | 32 => some (undef) | 33 => some (undef) | 34 => some (undef) | 35 => some (undef) | 36 => some (undef) | 37 => some (undef) | 38 => some (undef) | 39 => some (undef) | 40 => some (undef) | 41 => some (undef) | 42 => some (undef) | 43 => some (undef) | 44 => some (undef) | 45 => some (undef) | 46 => some (undef) | 47 => some (undef) | 48 => some (undef) | 49 => some (undef) | 50 => some (undef) | 51 => some (undef) | 52 => some (.bool false) | _ => none) []) (by kernel_rfl) (by kernel_rfl) (by kernel_rfl) (by kernel_rfl) (fun _ => undef) ?start8kz ?step8kz ?done8kz
            case start8kz => exact GrowJ.start ((Below.refl _ _).drew)
            case step8kz =>
              refine ⟨?o8kz_0, ?o8kz_1, ?o8kz_2, ?o8kz_3, ?o8kz_4, ?o8kz_5, ?o8kz_6, ?o8kz_7, ?o8kz_8, ?o8kz_9, ?o8kz_10, ?o8kz_11, ?o8kz_12, ?o8kz_13, ?o8kz_14, ?o8kz_15, ?o8kz_16, ?o8kz_17, ?o8kz_18, ?o8kz_19, ?o8kz_20, ?o8kz_21, ?o8kz_22, ?o8kz_23, ?o8kz_24, ?o8kz_25, ?o8kz_26, ?o8kz_27, ?o8kz_28, ?o8kz_29, ?o8kz_30, ?o8kz_31, ?o8kz_32, ?o8kz_33, ?o8kz_34, ?o8kz_35, ?o8kz_36, ?o8kz_37, ?o8kz_38, ?o8kz_39, ?o8kz_40, ?o8kz_41, ?o8kz_42, ?o8kz_43, ?o8kz_44, ?o8kz_45, ?o8kz_46, ?o8kz_47, ?o8kz_48, ?o8kz_49, ?o8kz_50, ?o8kz_51, ?o8kz_52, trivial⟩
              case o8kz_0 =>
                intro LX V aX wX K hl hp hcl hf hJ hK
                have t9 : aX.tmps[9]? = some (.int .i64 (k : Int)) := hf.old (by kernel_rfl) rfl
                rw [if_pos (by rfl)]
                go_simp
                exact hK _ _ (hJ.val HOK 0 _ (by kernel_rfl) rfl (Below.refl _ _))
              case o8kz_1 =>
                intro LX V aX wX K hl hp hcl hf hJ hK
                have t23 := hf.in (i := 0) (d := 23) (by kernel_rfl) (hp 0 (by kernel_rfl)) (hJ.vals 0 _ rfl (hp 0 (by kernel_rfl)))
                have hkz0 := HKZ.out
                have hkz : decide ((0 : Int) < (k : Int)) = false := by simp; omega
                have hkz1 : decide (0 < k) = false := by simp; omega
                clear hkz0
                rw [if_pos (by rfl)]
                go_simp
                exact hK _ _ (hJ.val HOK 1 _ (by kernel_rfl) rfl (Below.refl _ _))
              case o8kz_2 =>
                intro LX V aX wX K hl hp hcl hf hJ hK
                have t24 := hf.in (i := 1) (d := 24) (by kernel_rfl) (hp 1 (by kernel_rfl)) (hJ.vals 1 _ rfl (hp 1 (by kernel_rfl)))
                rw [if_pos (by rfl)]
                go_simp
                exact hK _ _ (hJ.val HOK 2 _ (by kernel_rfl) rfl (Below.refl _ _))
              case o8kz_3 =>
                intro LX V aX wX K hl hp hcl hf hJ hK
                have t25 := hf.in (i := 2) (d := 25) (by kernel_rfl) (hp 2 (by kernel_rfl)) (hJ.vals 2 _ rfl (hp 2 (by kernel_rfl)))
                rw [if_neg (by rw [wanted_not (b := true) rfl rfl t25]; exact Bool.false_ne_true)]
                exact hK _ _ (hJ.val HOK 3 _ (by kernel_rfl) rfl (Below.refl _ _))
              case o8kz_4 =>
                intro LX V aX wX K hl hp hcl hf hJ hK
                have t25 := hf.in (i := 2) (d := 25) (by kernel_rfl) (hp 2 (by kernel_rfl)) (hJ.vals 2 _ rfl (hp 2 (by kernel_rfl)))
                rw [if_neg (by rw [wanted_not (b := true) rfl rfl t25]; exact Bool.false_ne_true)]
                exact hK _ _ (hJ.val HOK 4 _ (by kernel_rfl) rfl (Below.refl _ _))
              case o8kz_5 =>
                intro LX V aX wX K hl hp hcl hf hJ hK
                have t25 := hf.in (i := 2) (d := 25) (by kernel_rfl) (hp 2 (by kernel_rfl)) (hJ.vals 2 _ rfl (hp 2 (by kernel_rfl)))
                rw [if_neg (by rw [wanted_not (b := true) rfl rfl t25]; exact Bool.false_ne_true)]
                exact hK _ _ (hJ.val HOK 5 _ (by kernel_rfl) rfl (Below.refl _ _))
              case o8kz_6 =>
                intro LX V aX wX K hl hp hcl hf hJ hK
                have t25 := hf.in (i := 2) (d := 25) (by kernel_rfl) (hp 2 (by kernel_rfl)) (hJ.vals 2 _ rfl (hp 2 (by kernel_rfl)))
                rw [if_neg (by rw [wanted_not (b := true) rfl rfl t25]; exact Bool.false_ne_true)]
                exact hK _ _ (hJ.val HOK 6 _ (by kernel_rfl) rfl (Below.refl _ _))
              case o8kz_7 =>
                intro LX V aX wX K hl hp hcl hf hJ hK
                have t25 := hf.in (i := 2) (d := 25) (by kernel_rfl) (hp 2 (by kernel_rfl)) (hJ.vals 2 _ rfl (hp 2 (by kernel_rfl)))
                rw [if_neg (by rw [wanted_not (b := true) rfl rfl t25]; exact Bool.false_ne_true)]
                exact hK _ _ (hJ.val HOK 7 _ (by kernel_rfl) rfl (Below.refl _ _))
              case o8kz_8 =>
                intro LX V aX wX K hl hp hcl hf hJ hK
                have t25 := hf.in (i := 2) (d := 25) (by kernel_rfl) (hp 2 (by kernel_rfl)) (hJ.vals 2 _ rfl (hp 2 (by kernel_rfl)))
                rw [if_neg (by rw [wanted_not (b := true) rfl rfl t25]; exact Bool.false_ne_true)]
                exact hK _ _ (hJ.val HOK 8 _ (by kernel_rfl) rfl (Below.refl _ _))
              case o8kz_9 =>
                intro LX V aX wX K hl hp hcl hf hJ hK
                have t25 := hf.in (i := 2) (d := 25) (by kernel_rfl) (hp 2 (by kernel_rfl)) (hJ.vals 2 _ rfl (hp 2 (by kernel_rfl)))
                rw [if_neg (by rw [wanted_not (b := true) rfl rfl t25]; exact Bool.false_ne_true)]
                exact hK _ _ (hJ.val HOK 9 _ (by kernel_rfl) rfl (Below.refl _ _))
              case o8kz_10 =>
                intro LX V aX wX K hl hp hcl hf hJ hK
                have t25 := hf.in (i := 2) (d := 25) (by kernel_rfl) (hp 2 (by kernel_rfl)) (hJ.vals 2 _ rfl (hp 2 (by kernel_rfl)))
                rw [if_neg (by rw [wanted_not (b := true) rfl rfl t25]; exact Bool.false_ne_true)]
                exact hK _ _ (hJ.val HOK 10 _ (by kernel_rfl) rfl (Below.refl _ _))
              case o8kz_11 =>
                intro LX V aX wX K hl hp hcl hf hJ hK
                have t25 := hf.in (i := 2) (d := 25) (by kernel_rfl) (hp 2 (by kernel_rfl)) (hJ.vals 2 _ rfl (hp 2 (by kernel_rfl)))
                rw [if_neg (by rw [wanted_not (b := true) rfl rfl t25]; exact Bool.false_ne_true)]
                exact hK _ _ (hJ.val HOK 11 _ (by kernel_rfl) rfl (Below.refl _ _))
              case o8kz_12 =>
                intro LX V aX wX K hl hp hcl hf hJ hK
                have t25 := hf.in (i := 2) (d := 25) (by kernel_rfl) (hp 2 (by kernel_rfl)) (hJ.vals 2 _ rfl (hp 2 (by kernel_rfl)))
                rw [if_neg (by rw [wanted_not (b := true) rfl rfl t25]; exact Bool.false_ne_true)]
                exact hK _ _ (hJ.val HOK 12 _ (by kernel_rfl) rfl (Below.refl _ _))
              case o8kz_13 =>
                intro LX V aX wX K hl hp hcl hf hJ hK
                have t25 := hf.in (i := 2) (d := 25) (by kernel_rfl) (hp 2 (by kernel_rfl)) (hJ.vals 2 _ rfl (hp 2 (by kernel_rfl)))
                rw [if_neg (by rw [wanted_not (b := true) rfl rfl t25]; exact Bool.false_ne_true)]
                exact hK _ _ (hJ.val HOK 13 _ (by kernel_rfl) rfl (Below.refl _ _))
              case o8kz_14 =>
                intro LX V aX wX K hl hp hcl hf hJ hK
                have t25 := hf.in (i := 2) (d := 25) (by kernel_rfl) (hp 2 (by kernel_rfl)) (hJ.vals 2 _ rfl (hp 2 (by kernel_rfl)))
                rw [if_neg (by rw [wanted_not (b := true) rfl rfl t25]; exact Bool.false_ne_true)]
                exact hK _ _ (hJ.val HOK 14 _ (by kernel_rfl) rfl (Below.refl _ _))
              case o8kz_15 =>
                intro LX V aX wX K hl hp hcl hf hJ hK
                have t25 := hf.in (i := 2) (d := 25) (by kernel_rfl) (hp 2 (by kernel_rfl)) (hJ.vals 2 _ rfl (hp 2 (by kernel_rfl)))
                rw [if_neg (by rw [wanted_not (b := true) rfl rfl t25]; exact Bool.false_ne_true)]
                exact hK _ _ (hJ.val HOK 15 _ (by kernel_rfl) rfl (Below.refl _ _))
              case o8kz_16 =>
                intro LX V aX wX K hl hp hcl hf hJ hK
                have t25 := hf.in (i := 2) (d := 25) (by kernel_rfl) (hp 2 (by kernel_rfl)) (hJ.vals 2 _ rfl (hp 2 (by kernel_rfl)))
                rw [if_neg (by rw [wanted_not (b := true) rfl rfl t25]; exact Bool.false_ne_true)]
                exact hK _ _ (hJ.val HOK 16 _ (by kernel_rfl) rfl (Below.refl _ _))
              case o8kz_17 =>
                intro LX V aX wX K hl hp hcl hf hJ hK
                have t25 := hf.in (i := 2) (d := 25) (by kernel_rfl) (hp 2 (by kernel_rfl)) (hJ.vals 2 _ rfl (hp 2 (by kernel_rfl)))
                rw [if_neg (by rw [wanted_not (b := true) rfl rfl t25]; exact Bool.false_ne_true)]
                exact hK _ _ (hJ.val HOK 17 _ (by kernel_rfl) rfl (Below.refl _ _))
              case o8kz_18 =>
                intro LX V aX wX K hl hp hcl hf hJ hK
                have t25 := hf.in (i := 2) (d := 25) (by kernel_rfl) (hp 2 (by kernel_rfl)) (hJ.vals 2 _ rfl (hp 2 (by kernel_rfl)))
                rw [if_neg (by rw [wanted_not (b := true) rfl rfl t25]; exact Bool.false_ne_true)]
                exact hK _ _ (hJ.val HOK 18 _ (by kernel_rfl) rfl (Below.refl _ _))
              case o8kz_19 =>
                intro LX V aX wX K hl hp hcl hf hJ hK
                have t25 := hf.in (i := 2) (d := 25) (by kernel_rfl) (hp 2 (by kernel_rfl)) (hJ.vals 2 _ rfl (hp 2 (by kernel_rfl)))
                rw [if_neg (by rw [wanted_not (b := true) rfl rfl t25]; exact Bool.false_ne_true)]
                exact hK _ _ (hJ.val HOK 19 _ (by kernel_rfl) rfl (Below.refl _ _))
              case o8kz_20 =>
                intro LX V aX wX K hl hp hcl hf hJ hK
                have t25 := hf.in (i := 2) (d := 25) (by kernel_rfl) (hp 2 (by kernel_rfl)) (hJ.vals 2 _ rfl (hp 2 (by kernel_rfl)))
                rw [if_neg (by rw [wanted_not (b := true) rfl rfl t25]; exact Bool.false_ne_true)]
                exact hK _ _ (hJ.val HOK 20 _ (by kernel_rfl) rfl (Below.refl _ _))
              case o8kz_21 =>
                intro LX V aX wX K hl hp hcl hf hJ hK
                have t43 := hf.in (i := 20) (d := 43) (by kernel_rfl) (hp 20 (by kernel_rfl)) (hJ.vals 20 _ rfl (hp 20 (by kernel_rfl)))
                rw [if_neg (by rw [wanted_none rfl rfl t43]; exact Bool.false_ne_true)]
                exact hK _ _ (hJ.val HOK 21 _ (by kernel_rfl) rfl (Below.refl _ _))
              case o8kz_22 =>
                intro LX V aX wX K hl hp hcl hf hJ hK
                have t43 := hf.in (i := 20) (d := 43) (by kernel_rfl) (hp 20 (by kernel_rfl)) (hJ.vals 20 _ rfl (hp 20 (by kernel_rfl)))
                rw [if_neg (by rw [wanted_none rfl rfl t43]; exact Bool.false_ne_true)]
                exact hK _ _ (hJ.val HOK 22 _ (by kernel_rfl) rfl (Below.refl _ _))
              case o8kz_23 =>
                intro LX V aX wX K hl hp hcl hf hJ hK
                have t43 := hf.in (i := 20) (d := 43) (by kernel_rfl) (hp 20 (by kernel_rfl)) (hJ.vals 20 _ rfl (hp 20 (by kernel_rfl)))
                rw [if_neg (by rw [wanted_none rfl rfl t43]; exact Bool.false_ne_true)]
                exact hK _ _ (hJ.val HOK 23 _ (by kernel_rfl) rfl (Below.refl _ _))
              case o8kz_24 =>
                intro LX V aX wX K hl hp hcl hf hJ hK
                have t43 := hf.in (i := 20) (d := 43) (by kernel_rfl) (hp 20 (by kernel_rfl)) (hJ.vals 20 _ rfl (hp 20 (by kernel_rfl)))
                rw [if_neg (by rw [wanted_none rfl rfl t43]; exact Bool.false_ne_true)]
                exact hK _ _ (hJ.val HOK 24 _ (by kernel_rfl) rfl (Below.refl _ _))
              case o8kz_25 =>
                intro LX V aX wX K hl hp hcl hf hJ hK
                have t43 := hf.in (i := 20) (d := 43) (by kernel_rfl) (hp 20 (by kernel_rfl)) (hJ.vals 20 _ rfl (hp 20 (by kernel_rfl)))
                rw [if_neg (by rw [wanted_none rfl rfl t43]; exact Bool.false_ne_true)]
                exact hK _ _ (hJ.val HOK 25 _ (by kernel_rfl) rfl (Below.refl _ _))
              case o8kz_26 =>
                intro LX V aX wX K hl hp hcl hf hJ hK
                have t43 := hf.in (i := 20) (d := 43) (by kernel_rfl) (hp 20 (by kernel_rfl)) (hJ.vals 20 _ rfl (hp 20 (by kernel_rfl)))
                rw [if_neg (by rw [wanted_none rfl rfl t43]; exact Bool.false_ne_true)]
                exact hK _ _ (hJ.val HOK 26 _ (by kernel_rfl) rfl (Below.refl _ _))
              case o8kz_27 =>
                intro LX V aX wX K hl hp hcl hf hJ hK
                have t43 := hf.in (i := 20) (d := 43) (by kernel_rfl) (hp 20 (by kernel_rfl)) (hJ.vals 20 _ rfl (hp 20 (by kernel_rfl)))
                rw [if_neg (by rw [wanted_none rfl rfl t43]; exact Bool.false_ne_true)]
                exact hK _ _ (hJ.val HOK 27 _ (by kernel_rfl) rfl (Below.refl _ _))
              case o8kz_28 =>
                intro LX V aX wX K hl hp hcl hf hJ hK
                have t43 := hf.in (i := 20) (d := 43) (by kernel_rfl) (hp 20 (by kernel_rfl)) (hJ.vals 20 _ rfl (hp 20 (by kernel_rfl)))
                rw [if_neg (by rw [wanted_none rfl rfl t43]; exact Bool.false_ne_true)]
                exact hK _ _ (hJ.val HOK 28 _ (by kernel_rfl) rfl (Below.refl _ _))
              case o8kz_29 =>
                intro LX V aX wX K hl hp hcl hf hJ hK
                have t43 := hf.in (i := 20) (d := 43) (by kernel_rfl) (hp 20 (by kernel_rfl)) (hJ.vals 20 _ rfl (hp 20 (by kernel_rfl)))
                rw [if_neg (by rw [wanted_none rfl rfl t43]; exact Bool.false_ne_true)]
                exact hK _ _ (hJ.val HOK 29 _ (by kernel_rfl) rfl (Below.refl _ _))
              case o8kz_30 =>
                intro LX V aX wX K hl hp hcl hf hJ hK
                have t43 := hf.in (i := 20) (d := 43) (by kernel_rfl) (hp 20 (by kernel_rfl)) (hJ.vals 20 _ rfl (hp 20 (by kernel_rfl)))
                rw [if_neg (by rw [wanted_none rfl rfl t43]; exact Bool.false_ne_true)]
                exact hK _ _ (hJ.val HOK 30 _ (by kernel_rfl) rfl (Below.refl _ _))
              case o8kz_31 =>
                intro LX V aX wX K hl hp hcl hf hJ hK
                have t43 := hf.in (i := 20) (d := 43) (by kernel_rfl) (hp 20 (by kernel_rfl)) (hJ.vals 20 _ rfl (hp 20 (by kernel_rfl)))
                rw [if_neg (by rw [wanted_none rfl rfl t43]; exact Bool.false_ne_true)]
                exact hK _ _ (hJ.val HOK 31 _ (by kernel_rfl) rfl (Below.refl _ _))
              case o8kz_32 =>
                intro LX V aX wX K hl hp hcl hf hJ hK
                have t43 := hf.in (i := 20) (d := 43) (by kernel_rfl) (hp 20 (by kernel_rfl)) (hJ.vals 20 _ rfl (hp 20 (by kernel_rfl)))
                rw [if_neg (by rw [wanted_none rfl rfl t43]; exact Bool.false_ne_true)]
                exact hK _ _ (hJ.val HOK 32 _ (by kernel_rfl) rfl (Below.refl _ _))
              case o8kz_33 =>
                intro LX V aX wX K hl hp hcl hf hJ hK
                have t43 := hf.in (i := 20) (d := 43) (by kernel_rfl) (hp 20 (by kernel_rfl)) (hJ.vals 20 _ rfl (hp 20 (by kernel_rfl)))
                rw [if_neg (by rw [wanted_none rfl rfl t43]; exact Bool.false_ne_true)]
                exact hK _ _ (hJ.val HOK 33 _ (by kernel_rfl) rfl (Below.refl _ _))
              case o8kz_34 =>
                intro LX V aX wX K hl hp hcl hf hJ hK
                have t43 := hf.in (i := 20) (d := 43) (by kernel_rfl) (hp 20 (by kernel_rfl)) (hJ.vals 20 _ rfl (hp 20 (by kernel_rfl)))
                rw [if_neg (by rw [wanted_none rfl rfl t43]; exact Bool.false_ne_true)]
                exact hK _ _ (hJ.val HOK 34 _ (by kernel_rfl) rfl (Below.refl _ _))
              case o8kz_35 =>
                intro LX V aX wX K hl hp hcl hf hJ hK
                have t43 := hf.in (i := 20) (d := 43) (by kernel_rfl) (hp 20 (by kernel_rfl)) (hJ.vals 20 _ rfl (hp 20 (by kernel_rfl)))
                rw [if_neg (by rw [wanted_none rfl rfl t43]; exact Bool.false_ne_true)]
                exact hK _ _ (hJ.val HOK 35 _ (by kernel_rfl) rfl (Below.refl _ _))
              case o8kz_36 =>
                intro LX V aX wX K hl hp hcl hf hJ hK
                have t43 := hf.in (i := 20) (d := 43) (by kernel_rfl) (hp 20 (by kernel_rfl)) (hJ.vals 20 _ rfl (hp 20 (by kernel_rfl)))
                rw [if_neg (by rw [wanted_none rfl rfl t43]; exact Bool.false_ne_true)]
                exact hK _ _ (hJ.val HOK 36 _ (by kernel_rfl) rfl (Below.refl _ _))
              case o8kz_37 =>
                intro LX V aX wX K hl hp hcl hf hJ hK
                have t43 := hf.in (i := 20) (d := 43) (by kernel_rfl) (hp 20 (by kernel_rfl)) (hJ.vals 20 _ rfl (hp 20 (by kernel_rfl)))
                rw [if_neg (by rw [wanted_none rfl rfl t43]; exact Bool.false_ne_true)]
                exact hK _ _ (hJ.val HOK 37 _ (by kernel_rfl) rfl (Below.refl _ _))
              case o8kz_38 =>
                intro LX V aX wX K hl hp hcl hf hJ hK
                have t43 := hf.in (i := 20) (d := 43) (by kernel_rfl) (hp 20 (by kernel_rfl)) (hJ.vals 20 _ rfl (hp 20 (by kernel_rfl)))
                rw [if_neg (by rw [wanted_none rfl rfl t43]; exact Bool.false_ne_true)]
                exact hK _ _ (hJ.val HOK 38 _ (by kernel_rfl) rfl (Below.refl _ _))
              case o8kz_39 =>
                intro LX V aX wX K hl hp hcl hf hJ hK
                have t43 := hf.in (i := 20) (d := 43) (by kernel_rfl) (hp 20 (by kernel_rfl)) (hJ.vals 20 _ rfl (hp 20 (by kernel_rfl)))
                rw [if_neg (by rw [wanted_none rfl rfl t43]; exact Bool.false_ne_true)]
                exact hK _ _ (hJ.val HOK 39 _ (by kernel_rfl) rfl (Below.refl _ _))
              case o8kz_40 =>
                intro LX V aX wX K hl hp hcl hf hJ hK
                have t62 := hf.in (i := 39) (d := 62) (by kernel_rfl) (hp 39 (by kernel_rfl)) (hJ.vals 39 _ rfl (hp 39 (by kernel_rfl)))
                rw [if_neg (by rw [wanted_none rfl rfl t62]; exact Bool.false_ne_true)]
                exact hK _ _ (hJ.val HOK 40 _ (by kernel_rfl) rfl (Below.refl _ _))
              case o8kz_41 =>
                intro LX V aX wX K hl hp hcl hf hJ hK
                have t62 := hf.in (i := 39) (d := 62) (by kernel_rfl) (hp 39 (by kernel_rfl)) (hJ.vals 39 _ rfl (hp 39 (by kernel_rfl)))
                rw [if_neg (by rw [wanted_none rfl rfl t62]; exact Bool.false_ne_true)]
                exact hK _ _ (hJ.val HOK 41 _ (by kernel_rfl) rfl (Below.refl _ _))
              case o8kz_42 =>
                intro LX V aX wX K hl hp hcl hf hJ hK
                have t62 := hf.in (i := 39) (d := 62) (by kernel_rfl) (hp 39 (by kernel_rfl)) (hJ.vals 39 _ rfl (hp 39 (by kernel_rfl)))
                rw [if_neg (by rw [wanted_none rfl rfl t62]; exact Bool.false_ne_true)]
                exact hK _ _ (hJ.val HOK 42 _ (by kernel_rfl) rfl (Below.refl _ _))
              case o8kz_43 =>
                intro LX V aX wX K hl hp hcl hf hJ hK
                have t62 := hf.in (i := 39) (d := 62) (by kernel_rfl) (hp 39 (by kernel_rfl)) (hJ.vals 39 _ rfl (hp 39 (by kernel_rfl)))
                rw [if_neg (by rw [wanted_none rfl rfl t62]; exact Bool.false_ne_true)]
                exact hK _ _ (hJ.val HOK 43 _ (by kernel_rfl) rfl (Below.refl _ _))
              case o8kz_44 =>
                intro LX V aX wX K hl hp hcl hf hJ hK
                have t62 := hf.in (i := 39) (d := 62) (by kernel_rfl) (hp 39 (by kernel_rfl)) (hJ.vals 39 _ rfl (hp 39 (by kernel_rfl)))
                rw [if_neg (by rw [wanted_none rfl rfl t62]; exact Bool.false_ne_true)]
                exact hK _ _ (hJ.val HOK 44 _ (by kernel_rfl) rfl (Below.refl _ _))
              case o8kz_45 =>
                intro LX V aX wX K hl hp hcl hf hJ hK
                have t62 := hf.in (i := 39) (d := 62) (by kernel_rfl) (hp 39 (by kernel_rfl)) (hJ.vals 39 _ rfl (hp 39 (by kernel_rfl)))
                rw [if_neg (by rw [wanted_none rfl rfl t62]; exact Bool.false_ne_true)]
                exact hK _ _ (hJ.val HOK 45 _ (by kernel_rfl) rfl (Below.refl _ _))
              case o8kz_46 =>
                intro LX V aX wX K hl hp hcl hf hJ hK
                have t62 := hf.in (i := 39) (d := 62) (by kernel_rfl) (hp 39 (by kernel_rfl)) (hJ.vals 39 _ rfl (hp 39 (by kernel_rfl)))
                rw [if_neg (by rw [wanted_none rfl rfl t62]; exact Bool.false_ne_true)]
                exact hK _ _ (hJ.val HOK 46 _ (by kernel_rfl) rfl (Below.refl _ _))
              case o8kz_47 =>
                intro LX V aX wX K hl hp hcl hf hJ hK
                have t62 := hf.in (i := 39) (d := 62) (by kernel_rfl) (hp 39 (by kernel_rfl)) (hJ.vals 39 _ rfl (hp 39 (by kernel_rfl)))
                rw [if_neg (by rw [wanted_none rfl rfl t62]; exact Bool.false_ne_true)]
                exact hK _ _ (hJ.val HOK 47 _ (by kernel_rfl) rfl (Below.refl _ _))
              case o8kz_48 =>
                intro LX V aX wX K hl hp hcl hf hJ hK
                have t62 := hf.in (i := 39) (d := 62) (by kernel_rfl) (hp 39 (by kernel_rfl)) (hJ.vals 39 _ rfl (hp 39 (by kernel_rfl)))
                rw [if_neg (by rw [wanted_none rfl rfl t62]; exact Bool.false_ne_true)]
                exact hK _ _ (hJ.val HOK 48 _ (by kernel_rfl) rfl (Below.refl _ _))
              case o8kz_49 =>
                intro LX V aX wX K hl hp hcl hf hJ hK
                have t62 := hf.in (i := 39) (d := 62) (by kernel_rfl) (hp 39 (by kernel_rfl)) (hJ.vals 39 _ rfl (hp 39 (by kernel_rfl)))
                rw [if_neg (by rw [wanted_none rfl rfl t62]; exact Bool.false_ne_true)]
                exact hK _ _ (hJ.val HOK 49 _ (by kernel_rfl) rfl (Below.refl _ _))
              case o8kz_50 =>
                intro LX V aX wX K hl hp hcl hf hJ hK
                have t43 := hf.in (i := 20) (d := 43) (by kernel_rfl) (hp 20 (by kernel_rfl)) (hJ.vals 20 _ rfl (hp 20 (by kernel_rfl)))
                rw [if_neg (by rw [wanted_none rfl rfl t43]; exact Bool.false_ne_true)]
                exact hK _ _ (hJ.val HOK 50 _ (by kernel_rfl) rfl (Below.refl _ _))
              case o8kz_51 =>
                intro LX V aX wX K hl hp hcl hf hJ hK
                have t25 := hf.in (i := 2) (d := 25) (by kernel_rfl) (hp 2 (by kernel_rfl)) (hJ.vals 2 _ rfl (hp 2 (by kernel_rfl)))
                rw [if_neg (by rw [wanted_not (b := true) rfl rfl t25]; exact Bool.false_ne_true)]
                exact hK _ _ (hJ.val HOK 51 _ (by kernel_rfl) rfl (Below.refl _ _))
              case o8kz_52 =>
                intro LX V aX wX K hl hp hcl hf hJ hK
                have t25 := hf.in (i := 2) (d := 25) (by kernel_rfl) (hp 2 (by kernel_rfl)) (hJ.vals 2 _ rfl (hp 2 (by kernel_rfl)))
                have t74 := hf.in (i := 51) (d := 74) (by kernel_rfl) (hp 51 (by kernel_rfl)) (hJ.vals 51 _ rfl (hp 51 (by kernel_rfl)))
                rw [if_pos (by rfl)]
                go_simp
                exact hK _ _ (hJ.val HOK 52 _ (by kernel_rfl) rfl (Below.refl _ _))
            intro V wZ hJ
            have hv := hJ.vals 52 _ rfl (by kernel_rfl)
            have HBY := Lib.hid hJ.below
            simp only [puts, Act.put, List.setIfInBounds_toArray, List.set_cons_zero, List.set_cons_succ]
            rw [hv]
            clear hJ HOK hv
            obtain ⟨wy, hwy⟩ : ∃ wy, wy = wZ := ⟨_, rfl⟩
            rw [← hwy] at HBY ⊢
            clear hwy
            have HB2 : Hid (Below w1.heap.size w1 wy) := Lib.hid (hbk.out.trans (HBY.out.mono hbk.out.size))
            have HTK : Hid (∀ wX, Below wy.heap.size wy wX → IsInts wX (some ⟨bo, oo, none⟩) k co (S.take k)) := Lib.hid (fun wX hX => (HIX.out.front HKN.out).later (HB2.out.trans (hX.mono HB2.out.size)) (Nat.le_refl _))
            have HDR : Hid (∀ wX, Below wy.heap.size wy wX → IsInts wX (if co = k then some ⟨bo, oo, none⟩ else some ⟨bo, oo + k, none⟩) (no - k) (co - k) (S.drop k)) := Lib.hid (fun wX hX => (HIX.out.back HKN.out).later (HB2.out.trans (hX.mono HB2.out.size)) (Nat.le_refl _))
            have HPC : Hid (∀ wX, Below wy.heap.size wy wX → wX.cell? ⟨pb, pf + i, none⟩ = some (.int .i64 (xn : Int))) := Lib.hid (fun wX hX => GPC1.out wX (HB2.out.trans (hX.mono HB2.out.size)))
            have HLN1 : Hid (([] : List Int).length + k ≤ 1000000000) := Lib.hid (by have := HKN.out; simp; omega)
            have HLN2 : Hid (([] ++ S.take k : List Int).length + [(xn : Int)].length ≤ 1000000000) := Lib.hid (by have := HNO.out; simp; omega)
            have HLN3 : Hid (([] ++ S.take k ++ [(xn : Int)] : List Int).length + (no - k) ≤ 1000000000) := Lib.hid (by have := HNO.out; simp; omega)
            go_wp2_with fail
            have HOK : ∀ r ∈ ([⟨0, 0, 0, some 4, [], fun V w => OwnI w wy.heap.size (V 0) ([])⟩, ⟨1, 4, 4, some 10, [], fun V w => OwnI w wy.heap.size (V 4) ([] ++ S.take k)⟩, ⟨2, 9, 9, none, [], fun V w => OwnI w wy.heap.size (V 9) ([(xn : Int)])⟩, ⟨3, 10, 10, some 14, [], fun V w => OwnI w wy.heap.size (V 10) ([] ++ S.take k ++ [(xn : Int)])⟩, ⟨4, 14, 14, some 15, [], fun V w => OwnI w wy.heap.size (V 14) ([] ++ S.take k ++ [(xn : Int)] ++ S.drop k)⟩, ⟨5, 15, 15, none, [], fun V w => OwnI w wy.heap.size (V 15) ([] ++ S.take k ++ [(xn : Int)] ++ S.drop k)⟩] : List Resr), ResOk wy r := by
              intro r hr
              simp only [List.mem_cons, List.not_mem_nil, or_false] at hr
              rcases hr with rfl | rfl | rfl | rfl | rfl | rfl
              · exact resInts_ok _
              · exact resInts_ok _
              · exact resInts_ok _
              · exact resInts_ok _
              · exact resInts_ok _
              · exact resInts_ok _
            refine wp_region_J (s := [(78, 0), (79, 1), (80, 2), (81, 3), (82, 4), (83, 5), (84, 6), (85, 7), (86, 8), (87, 9), (88, 10), (89, 11), (90, 12), (91, 13), (92, 14), (7, 15)]) (by kernel_rfl) (ResJ wy (fun iX => match iX with | 1 => some (.slice (some ⟨bo, oo, none⟩) no co) | 2 => some (.int .i64 (k : Int)) | 3 => some (.slice (some ⟨bo, oo, none⟩) k co) | 5 => some (.slice (some ⟨pb, pf, none⟩) m pc) | 6 => some (.int .i64 (i : Int)) | 7 => some (.pointer (some ⟨pb, pf + i, none⟩)) | 8 => some (.int .i64 (xn : Int)) | 11 => some (.slice (some ⟨bo, oo, none⟩) no co) | 12 => some (.int .i64 (k : Int)) | 13 => some (.slice (if co = k then some ⟨bo, oo, none⟩ else some ⟨bo, oo + k, none⟩) (no - k) (co - k)) | _ => none) [⟨0, 0, 0, some 4, [], fun V w => OwnI w wy.heap.size (V 0) ([])⟩, ⟨1, 4, 4, some 10, [], fun V w => OwnI w wy.heap.size (V 4) ([] ++ S.take k)⟩, ⟨2, 9, 9, none, [], fun V w => OwnI w wy.heap.size (V 9) ([(xn : Int)])⟩, ⟨3, 10, 10, some 14, [], fun V w => OwnI w wy.heap.size (V 10) ([] ++ S.take k ++ [(xn : Int)])⟩, ⟨4, 14, 14, some 15, [], fun V w => OwnI w wy.heap.size (V 14) ([] ++ S.take k ++ [(xn : Int)] ++ S.drop k)⟩, ⟨5, 15, 15, none, [], fun V w => OwnI w wy.heap.size (V 15) ([] ++ S.take k ++ [(xn : Int)] ++ S.drop k)⟩]) (by kernel_rfl) (by kernel_rfl) (by kernel_rfl) (by kernel_rfl) (fun _ => undef) ?start10c ?step10c ?done10c
            case start10c => exact ResJ.start ((Below.refl _ _).drew) (by kernel_rfl)
            case step10c =>
              refine ⟨?o10c_0, ?o10c_1, ?o10c_2, ?o10c_3, ?o10c_4, ?o10c_5, ?o10c_6, ?o10c_7, ?o10c_8, ?o10c_9, ?o10c_10, ?o10c_11, ?o10c_12, ?o10c_13, ?o10c_14, ?o10c_15, trivial⟩
              case o10c_0 =>
                intro LX V aX wX K hl hp hcl hf hJ hK
                rw [if_pos (by rfl)]
                go_simp
                exact hK _ _ (hJ.step HOK 0 _ hl (by kernel_rfl) trivial none (World.grownBy_alloc _ _ _) (.inl rfl) (new_one (by kernel_rfl) ⟨0, 0, 0, some 4, [], fun V w => OwnI w wy.heap.size (V 0) ([])⟩ (List.mem_of_getElem? (i := 0) rfl) rfl ⟨(fun j hj => by rcases hj with rfl | hj; exact .inl rfl; cases hj), by (try simp only); rw [upd_at]; exact OwnI.lit wX _ hJ.below.size [] (by simp), fun g hg => .inl (by rw [upd_at] at hg; cases hg; exact Nat.le_refl _)⟩))
              case o10c_1 =>
                intro LX V aX wX K hl hp hcl hf hJ hK
                have t7 := hf.still (t := 7) (v := .slice (some ⟨bo, oo, none⟩) no co) 15 (by kernel_rfl) (hcl.no 15 (by kernel_rfl) hl) rfl
                rw [if_pos (by rfl)]
                go_simp
                exact hK _ _ (hJ.val HOK 1 _ hl (by kernel_rfl) (by kernel_rfl) rfl (Below.refl _ _))
              case o10c_2 =>
                intro LX V aX wX K hl hp hcl hf hJ hK
                have t9 : aX.tmps[9]? = some (.int .i64 (k : Int)) := hf.old (by kernel_rfl) rfl
                rw [if_pos (by rfl)]
                go_simp
                exact hK _ _ (hJ.val HOK 2 _ hl (by kernel_rfl) (by kernel_rfl) rfl (Below.refl _ _))
              case o10c_3 =>
                intro LX V aX wX K hl hp hcl hf hJ hK
                have t79 := hf.in (i := 1) (d := 79) (by kernel_rfl) (hp 1 (by kernel_rfl)) (hJ.vals 1 _ rfl (hp 1 (by kernel_rfl)))
                have t80 := hf.in (i := 2) (d := 80) (by kernel_rfl) (hp 2 (by kernel_rfl)) (hJ.vals 2 _ rfl (hp 2 (by kernel_rfl)))
                have hk5 := HK5.out
                obtain ⟨hk6, hk7, hk8, hk9, hk10, hk11⟩ := hk5
                rw [if_pos (by rfl)]
                go_simp
                exact hK _ _ (hJ.val HOK 3 _ hl (by kernel_rfl) (by kernel_rfl) rfl (Below.refl _ _))
              case o10c_4 =>
                intro LX V aX wX K hl hp hcl hf hJ hK
                have t78 := hf.in (i := 0) (d := 78) (by kernel_rfl) (hp 0 (by kernel_rfl)) rfl
                have t81 := hf.in (i := 3) (d := 81) (by kernel_rfl) (hp 3 (by kernel_rfl)) (hJ.vals 3 _ rfl (hp 3 (by kernel_rfl)))
                rw [if_pos (by rfl)]
                have hq0 := hJ.at ⟨0, 0, 0, some 4, [], fun V w => OwnI w wy.heap.size (V 0) ([])⟩ (List.mem_of_getElem? (i := 0) rfl) (lor (hp 0 (by kernel_rfl))) hl
                refine opwp_append_intsF _ _ rfl wy.heap.size (V 0) ([]) (eval_tmp t78) hq0 _ _ _ (S.take k) (eval_tmp t81) (HTK.out _ hJ.below) (HLN1.out) hJ.below.size ?_
                intro v' w' hown2 hgr hfr
                exact hK _ _ (hJ.step HOK 4 v' hl (by kernel_rfl) trivial (V 0).ownBlock hgr (.inr ⟨⟨0, 0, 0, some 4, [], fun V w => OwnI w wy.heap.size (V 0) ([])⟩, List.mem_of_getElem? (i := 0) rfl, rfl, lor (hp 0 (by kernel_rfl)), by (try simp only); exact OwnI.any hq0⟩) (new_one (by kernel_rfl) ⟨1, 4, 4, some 10, [], fun V w => OwnI w wy.heap.size (V 4) ([] ++ S.take k)⟩ (List.mem_of_getElem? (i := 1) rfl) rfl ⟨(fun j hj => by rcases hj with rfl | hj; exact .inl rfl; cases hj), by (try simp only); rw [upd_at]; exact hown2, fun g hg => by rw [upd_at, OwnI.any hown2] at hg; exact hfr g hg⟩))
              case o10c_5 =>
                intro LX V aX wX K hl hp hcl hf hJ hK
                have t1 : aX.tmps[1]? = some (.slice (some ⟨pb, pf, none⟩) m pc) := hf.old (by kernel_rfl) rfl
                rw [if_pos (by rfl)]
                go_simp
                exact hK _ _ (hJ.val HOK 5 _ hl (by kernel_rfl) (by kernel_rfl) rfl (Below.refl _ _))
              case o10c_6 =>
                intro LX V aX wX K hl hp hcl hf hJ hK
                have t8 : aX.tmps[8]? = some (.int .i64 (i : Int)) := hf.old (by kernel_rfl) rfl
                rw [if_pos (by rfl)]
                go_simp
                exact hK _ _ (hJ.val HOK 6 _ hl (by kernel_rfl) (by kernel_rfl) rfl (Below.refl _ _))
              case o10c_7 =>
                intro LX V aX wX K hl hp hcl hf hJ hK
                have t83 := hf.in (i := 5) (d := 83) (by kernel_rfl) (hp 5 (by kernel_rfl)) (hJ.vals 5 _ rfl (hp 5 (by kernel_rfl)))
                have t84 := hf.in (i := 6) (d := 84) (by kernel_rfl) (hp 6 (by kernel_rfl)) (hJ.vals 6 _ rfl (hp 6 (by kernel_rfl)))
                obtain ⟨u2, u3⟩ := HPI.out
                rw [if_pos (by rfl)]
                go_simp
                exact hK _ _ (hJ.val HOK 7 _ hl (by kernel_rfl) (by kernel_rfl) rfl (Below.refl _ _))
              case o10c_8 =>
                intro LX V aX wX K hl hp hcl hf hJ hK
                have t85 := hf.in (i := 7) (d := 85) (by kernel_rfl) (hp 7 (by kernel_rfl)) (hJ.vals 7 _ rfl (hp 7 (by kernel_rfl)))
                have c0 := HPC.out wX hJ.below
                rw [if_pos (by rfl)]
                go_simp
                exact hK _ _ (hJ.val HOK 8 _ hl (by kernel_rfl) (by kernel_rfl) rfl (Below.refl _ _))
              case o10c_9 =>
                intro LX V aX wX K hl hp hcl hf hJ hK
                have t86 := hf.in (i := 8) (d := 86) (by kernel_rfl) (hp 8 (by kernel_rfl)) (hJ.vals 8 _ rfl (hp 8 (by kernel_rfl)))
                rw [if_pos (by rfl)]
                go_simp
                exact hK _ _ (hJ.step HOK 9 _ hl (by kernel_rfl) trivial none (World.grownBy_alloc _ _ _) (.inl rfl) (new_one (by kernel_rfl) ⟨2, 9, 9, none, [], fun V w => OwnI w wy.heap.size (V 9) ([(xn : Int)])⟩ (List.mem_of_getElem? (i := 2) rfl) rfl ⟨(fun j hj => by rcases hj with rfl | hj; exact .inl rfl; cases hj), by (try simp only); rw [upd_at]; exact OwnI.lit wX _ hJ.below.size [(xn : Int)] (by simp), fun g hg => .inl (by rw [upd_at] at hg; cases hg; exact Nat.le_refl _)⟩))
              case o10c_10 =>
                intro LX V aX wX K hl hp hcl hf hJ hK
                have t82 := hf.in (i := 4) (d := 82) (by kernel_rfl) (hp 4 (by kernel_rfl)) rfl
                have t87 := hf.in (i := 9) (d := 87) (by kernel_rfl) (hp 9 (by kernel_rfl)) rfl
                rw [if_pos (by rfl)]
                have hq9 := hJ.at ⟨2, 9, 9, none, [], fun V w => OwnI w wy.heap.size (V 9) ([(xn : Int)])⟩ (List.mem_of_getElem? (i := 2) rfl) (lor (hp 9 (by kernel_rfl))) trivial
                obtain ⟨a87, c87, hv87, hpts⟩ := OwnI.ints hq9
                have hq0 := hJ.at ⟨1, 4, 4, some 10, [], fun V w => OwnI w wy.heap.size (V 4) ([] ++ S.take k)⟩ (List.mem_of_getElem? (i := 1) rfl) (lor (hp 4 (by kernel_rfl))) hl
                refine opwp_append_intsF _ _ rfl wy.heap.size (V 4) ([] ++ S.take k) (eval_tmp t82) hq0 _ _ _ ([(xn : Int)]) (by rw [eval_tmp t87]; exact hv87) (hpts) (HLN2.out) hJ.below.size ?_
                intro v' w' hown2 hgr hfr
                exact hK _ _ (hJ.step HOK 10 v' hl (by kernel_rfl) trivial (V 4).ownBlock hgr (.inr ⟨⟨1, 4, 4, some 10, [], fun V w => OwnI w wy.heap.size (V 4) ([] ++ S.take k)⟩, List.mem_of_getElem? (i := 1) rfl, rfl, lor (hp 4 (by kernel_rfl)), by (try simp only); exact OwnI.any hq0⟩) (new_one (by kernel_rfl) ⟨3, 10, 10, some 14, [], fun V w => OwnI w wy.heap.size (V 10) ([] ++ S.take k ++ [(xn : Int)])⟩ (List.mem_of_getElem? (i := 3) rfl) rfl ⟨(fun j hj => by rcases hj with rfl | hj; exact .inl rfl; cases hj), by (try simp only); rw [upd_at]; exact hown2, fun g hg => by rw [upd_at, OwnI.any hown2] at hg; exact hfr g hg⟩))
              case o10c_11 =>
                intro LX V aX wX K hl hp hcl hf hJ hK
                have t7 := hf.still (t := 7) (v := .slice (some ⟨bo, oo, none⟩) no co) 15 (by kernel_rfl) (hcl.no 15 (by kernel_rfl) hl) rfl
                rw [if_pos (by rfl)]
                go_simp
                exact hK _ _ (hJ.val HOK 11 _ hl (by kernel_rfl) (by kernel_rfl) rfl (Below.refl _ _))
              case o10c_12 =>
                intro LX V aX wX K hl hp hcl hf hJ hK
                have t9 : aX.tmps[9]? = some (.int .i64 (k : Int)) := hf.old (by kernel_rfl) rfl
                rw [if_pos (by rfl)]
                go_simp
                exact hK _ _ (hJ.val HOK 12 _ hl (by kernel_rfl) (by kernel_rfl) rfl (Below.refl _ _))
              case o10c_13 =>
                intro LX V aX wX K hl hp hcl hf hJ hK
                have t89 := hf.in (i := 11) (d := 89) (by kernel_rfl) (hp 11 (by kernel_rfl)) (hJ.vals 11 _ rfl (hp 11 (by kernel_rfl)))
                have t90 := hf.in (i := 12) (d := 90) (by kernel_rfl) (hp 12 (by kernel_rfl)) (hJ.vals 12 _ rfl (hp 12 (by kernel_rfl)))
                have hk5 := HK5.out
                obtain ⟨hk6, hk7, hk8, hk9, hk10, hk11⟩ := hk5
                rw [if_pos (by rfl)]
                go_simp
                exact hK _ _ (hJ.val HOK 13 _ hl (by kernel_rfl) (by kernel_rfl) rfl (Below.refl _ _))
              case o10c_14 =>
                intro LX V aX wX K hl hp hcl hf hJ hK
                have t88 := hf.in (i := 10) (d := 88) (by kernel_rfl) (hp 10 (by kernel_rfl)) rfl
                have t91 := hf.in (i := 13) (d := 91) (by kernel_rfl) (hp 13 (by kernel_rfl)) (hJ.vals 13 _ rfl (hp 13 (by kernel_rfl)))
                rw [if_pos (by rfl)]
                have hq0 := hJ.at ⟨3, 10, 10, some 14, [], fun V w => OwnI w wy.heap.size (V 10) ([] ++ S.take k ++ [(xn : Int)])⟩ (List.mem_of_getElem? (i := 3) rfl) (lor (hp 10 (by kernel_rfl))) hl
                refine opwp_append_intsF _ _ rfl wy.heap.size (V 10) ([] ++ S.take k ++ [(xn : Int)]) (eval_tmp t88) hq0 _ _ _ (S.drop k) (eval_tmp t91) (HDR.out _ hJ.below) (HLN3.out) hJ.below.size ?_
                intro v' w' hown2 hgr hfr
                exact hK _ _ (hJ.step HOK 14 v' hl (by kernel_rfl) trivial (V 10).ownBlock hgr (.inr ⟨⟨3, 10, 10, some 14, [], fun V w => OwnI w wy.heap.size (V 10) ([] ++ S.take k ++ [(xn : Int)])⟩, List.mem_of_getElem? (i := 3) rfl, rfl, lor (hp 10 (by kernel_rfl)), by (try simp only); exact OwnI.any hq0⟩) (new_one (by kernel_rfl) ⟨4, 14, 14, some 15, [], fun V w => OwnI w wy.heap.size (V 14) ([] ++ S.take k ++ [(xn : Int)] ++ S.drop k)⟩ (List.mem_of_getElem? (i := 4) rfl) rfl ⟨(fun j hj => by rcases hj with rfl | hj; exact .inl rfl; cases hj), by (try simp only); rw [upd_at]; exact hown2, fun g hg => by rw [upd_at, OwnI.any hown2] at hg; exact hfr g hg⟩))
              case o10c_15 =>
                intro LX V aX wX K hl hp hcl hf hJ hK
                have t92 := hf.in (i := 14) (d := 92) (by kernel_rfl) (hp 14 (by kernel_rfl)) rfl
                rw [if_pos (by rfl)]
                have hq0 := hJ.at ⟨4, 14, 14, some 15, [], fun V w => OwnI w wy.heap.size (V 14) ([] ++ S.take k ++ [(xn : Int)] ++ S.drop k)⟩ (List.mem_of_getElem? (i := 4) rfl) (lor (hp 14 (by kernel_rfl))) hl
                go_simp
                exact hK _ _ (hJ.step HOK 15 _ hl (by kernel_rfl) trivial (ownAny (V 14)) ⟨rfl, rfl, rfl, Nat.le_refl _, fun _ _ _ => rfl⟩ (.inr ⟨⟨4, 14, 14, some 15, [], fun V w => OwnI w wy.heap.size (V 14) ([] ++ S.take k ++ [(xn : Int)] ++ S.drop k)⟩, List.mem_of_getElem? (i := 4) rfl, rfl, lor (hp 14 (by kernel_rfl)), rfl⟩) (new_one (by kernel_rfl) ⟨5, 15, 15, none, [], fun V w => OwnI w wy.heap.size (V 15) ([] ++ S.take k ++ [(xn : Int)] ++ S.drop k)⟩ (List.mem_of_getElem? (i := 5) rfl) rfl ⟨(fun j hj => by rcases hj with rfl | hj; exact .inl rfl; cases hj), by (try simp only); rw [upd_at]; exact hq0, fun g hg => .inr (by rw [upd_at] at hg; exact hg.symm ▸ rfl)⟩))
            intro V wZ hJ
            have hq := hJ.at ⟨5, 15, 15, none, [], fun V w => OwnI w wy.heap.size (V 15) ([] ++ S.take k ++ [(xn : Int)] ++ S.drop k)⟩ (List.mem_of_getElem? (i := 5) rfl) (by kernel_rfl) trivial
            have HZ := Lib.hid (And.intro hq hJ.below)
            simp only [puts, Act.put, List.setIfInBounds_toArray, List.set_cons_zero, List.set_cons_succ]
            clear hJ hq HOK
            go_wp2_with fail
            go_roundw
            case rel =>
              have hb8 := HB1.out.trans (HB2.out.mono HB1.out.size)
              exact ⟨i + 1, by omega, by go_num, Lib.hid ⟨_, HZ.out.1.base hb8.size, fun e => absurd e (by simp), HRS.out.1, HRS.out.2⟩, Lib.hid (hb8.trans (HZ.out.2.mono hb8.size))⟩
            case measure => simp [intOf]; omega
    · have him : m = i := by omega
      subst him
      rw [List.take_of_length_le (by rw [HPL.out]; exact Nat.le_refl _)] at hpm
      obtain ⟨ax, co, hvx, hix⟩ := hown.ints
      rw [hSl] at hvx hix
      obtain ⟨bo, oo, hax, _⟩ := hix.at (i := 0) (by omega)
      subst hax
      subst hvx
      have hnco := hix.2.1
      have hcom : co ≤ 9223372036854775807 := hix.2.2.1
      obtain ⟨hfn, hhf⟩ : ∃ h : Nat, h = halfN S.length := ⟨_, rfl⟩
      have hhf2 : hfn = (m + 1) / 2 := by rw [hhf, hSl]; rfl
      have hq1 : IntKind.i64.wrap ((m : Int) + 1) = (m : Int) + 1 := IntWalk.i64_in _ (by omega)
      have hq2 : Int.tdiv ((m : Int) + 1) 2 = (hfn : Int) := by rw [hhf2, Int.tdiv_eq_ediv_of_nonneg (by omega)]; omega
      have hq3 : IntKind.i64.wrap (hfn : Int) = (hfn : Int) := IntWalk.i64_in _ (by omega)
      have HH : Hid (((hfn : Int) ≤ (co : Int) ∧ (0 : Int) ≤ (hfn : Int) ∧ hfn ≤ co ∧ (hfn : Int) ≤ (m : Int)) ∧ hfn ≤ m ∧ IntKind.i64.wrap (hfn : Int) = (hfn : Int) ∧ (S.length = m ∧ m ≤ 3000)) := Lib.hid ⟨⟨by omega, by omega, by omega, by omega⟩, by omega, hq3, hSl, by omega⟩
      have hndS : S.Nodup := hpm.nodup_iff.2 HND.out
      have hrgS : ∀ x ∈ S, 0 ≤ x ∧ x < (n : Int) := fun x hx => HRG.out x (hpm.subset hx)
      have hac1 : (!ac) = decide (lev1 % 2 = 0) := by
        rw [HAC.out, HL1.out]
        by_cases h : lev % 2 = 0
        · rw [decide_eq_true h, decide_eq_false (by omega)]; rfl
        · rw [decide_eq_false h, decide_eq_true (by omega)]; rfl
      have HO1 : Hid (∀ wX, Below wr.heap.size wr wX → Calls Try.prog 39 #[.slice ao n cap, .slice (some ⟨bo, oo, none⟩) hfn co, .int .i64 (lev1 : Int)] wX (OrdR L (!ac) (S.take hfn) wX)) := Lib.hid (fun wX hX =>
        HIH.out _ hfn co (S.take hfn) lev1 (!ac) wX (by omega) (by rw [HL1.out]; omega) hac1 (HX.out.later (hbl.out.trans (hX.mono hbl.out.size)) (Nat.le_refl _)) ((hix.front (by omega)).later hX (Nat.le_refl _)) (hndS.sublist (List.take_sublist _ _)) (fun x hx => hrgS x (List.mem_of_mem_take hx)))
      have HO2 : Hid (∀ wX, Below wr.heap.size wr wX → Calls Try.prog 39 #[.slice ao n cap, .slice (if co = hfn then some ⟨bo, oo, none⟩ else some ⟨bo, oo + hfn, none⟩) (m - hfn) (co - hfn), .int .i64 (lev1 : Int)] wX (OrdR L (!ac) (S.drop hfn) wX)) := Lib.hid (fun wX hX =>
        HIH.out _ (m - hfn) (co - hfn) (S.drop hfn) lev1 (!ac) wX (by omega) (by rw [HL1.out]; omega) hac1 (HX.out.later (hbl.out.trans (hX.mono hbl.out.size)) (Nat.le_refl _)) ((hix.back (by omega)).later hX (Nat.le_refl _)) (hndS.sublist (List.drop_sublist _ _)) (fun x hx => hrgS x (List.mem_of_mem_drop hx)))
      have HF : Hid (∀ O Q, Laid L (!ac) (S.take hfn) O → Laid L (!ac) (S.drop hfn) Q → Laid L ac p (O ++ Q)) := Lib.hid (fun O Q h1 h2 => .cut (by rw [HPL.out]; omega) hpm hsrt (by rw [← hhf]; exact h1) (by rw [← hhf]; exact h2))
      clear hown hnil hpm hsrt hSl hix hhf hhf2 hndS hrgS hac1
      go_wp2_with fail
      refine wp_region_J (s := [(97, 0), (98, 1), (99, 2), (100, 3), (101, 4), (102, 5), (103, 6), (104, 7), (105, 8), (106, 9), (107, 10), (108, 11), (109, 12), (110, 13), (111, 14), (112, 15), (113, 16), (6, 17)]) (by kernel_rfl) (FloatJ (fun iX => match iX with | 1 => some (.slice ao n cap) | 2 => some (.slice (some ⟨bo, oo, none⟩) m co) | 3 => some (.int .i64 (hfn : Int)) | 4 => some (.slice (some ⟨bo, oo, none⟩) hfn co) | 5 => some (.int .i64 (lev : Int)) | 6 => some (.int .i64 (lev1 : Int)) | 9 => some (.slice ao n cap) | 10 => some (.slice (some ⟨bo, oo, none⟩) m co) | 11 => some (.int .i64 (hfn : Int)) | 12 => some (.slice (if co = hfn then some ⟨bo, oo, none⟩ else some ⟨bo, oo + hfn, none⟩) (m - hfn) (co - hfn)) | 13 => some (.int .i64 (lev : Int)) | 14 => some (.int .i64 (lev1 : Int)) | _ => none) [7, 8, 15, 16, 17] [0] (OrS L (!ac) S hfn wr)) (by kernel_rfl) (by kernel_rfl) (by kernel_rfl) (by kernel_rfl) (fun _ => undef) ?start12 ?step12 ?done12
      case start12 => exact FloatJ.start (⟨(Below.refl _ _).drew, fun v h => by cases h⟩)
      case step12 =>
        refine ⟨?o12_0, ?o12_1, ?o12_2, ?o12_3, ?o12_4, ?o12_5, ?o12_6, ?o12_7, ?o12_8, ?o12_9, ?o12_10, ?o12_11, ?o12_12, ?o12_13, ?o12_14, ?o12_15, ?o12_16, ?o12_17, trivial⟩
        case o12_0 =>
          intro LX V aX wX K hl hp hcl hf hJ hK
          rw [if_pos (by rfl)]
          have hfl := fun v w' hS => hJ.float (w' := w') 0 v (by kernel_rfl) trivial (by kernel_rfl) hl hS
          go_simp
          exact hK _ _ (hfl _ _ (fun vs F hF hS => hS.float))
        case o12_1 =>
          intro LX V aX wX K hl hp hcl hf hJ hK
          have t0 : aX.tmps[0]? = some (.slice ao n cap) := hf.old (by kernel_rfl) rfl
          rw [if_pos (by rfl)]
          go_simp
          exact hK _ _ (hJ.val 1 _ (by kernel_rfl) (by first | rfl | trivial) (by kernel_rfl) (fun _ _ h => h))
        case o12_2 =>
          intro LX V aX wX K hl hp hcl hf hJ hK
          have t7 : aX.tmps[7]? = some (.slice (some ⟨bo, oo, none⟩) m co) := hf.old (by kernel_rfl) rfl
          rw [if_pos (by rfl)]
          go_simp
          exact hK _ _ (hJ.val 2 _ (by kernel_rfl) (by first | rfl | trivial) (by kernel_rfl) (fun _ _ h => h))
        case o12_3 =>
          intro LX V aX wX K hl hp hcl hf hJ hK
          have t10 : aX.tmps[10]? = some (.int .i64 (hfn : Int)) := hf.old (by kernel_rfl) rfl
          rw [if_pos (by rfl)]
          go_simp
          exact hK _ _ (hJ.val 3 _ (by kernel_rfl) (by first | rfl | trivial) (by kernel_rfl) (fun _ _ h => h))
        case o12_4 =>
          intro LX V aX wX K hl hp hcl hf hJ hK
          have t99 := hf.in (i := 2) (d := 99) (by kernel_rfl) (hp 2 (by kernel_rfl)) (hJ.vals 2 _ rfl (hp 2 (by kernel_rfl)))
          have t100 := hf.in (i := 3) (d := 100) (by kernel_rfl) (hp 3 (by kernel_rfl)) (hJ.vals 3 _ rfl (hp 3 (by kernel_rfl)))
          obtain ⟨⟨h1, h0, h6, h7⟩, h2, h3, h4⟩ := HH.out
          rw [if_pos (by rfl)]
          go_simp
          exact hK _ _ (hJ.val 4 _ (by kernel_rfl) (by first | rfl | trivial) (by kernel_rfl) (fun _ _ h => h))
        case o12_5 =>
          intro LX V aX wX K hl hp hcl hf hJ hK
          have t2 : aX.tmps[2]? = some (.int .i64 (lev : Int)) := hf.old (by kernel_rfl) rfl
          rw [if_pos (by rfl)]
          go_simp
          exact hK _ _ (hJ.val 5 _ (by kernel_rfl) (by first | rfl | trivial) (by kernel_rfl) (fun _ _ h => h))
        case o12_6 =>
          intro LX V aX wX K hl hp hcl hf hJ hK
          have t102 := hf.in (i := 5) (d := 102) (by kernel_rfl) (hp 5 (by kernel_rfl)) (hJ.vals 5 _ rfl (hp 5 (by kernel_rfl)))
          have hl1 := HLV.out
          rw [if_pos (by rfl)]
          go_simp
          exact hK _ _ (hJ.val 6 _ (by kernel_rfl) (by first | rfl | trivial) (by kernel_rfl) (fun _ _ h => h))
        case o12_7 =>
          intro LX V aX wX K hl hp hcl hf hJ hK
          have t98 := hf.in (i := 1) (d := 98) (by kernel_rfl) (hp 1 (by kernel_rfl)) (hJ.vals 1 _ rfl (hp 1 (by kernel_rfl)))
          have t101 := hf.in (i := 4) (d := 101) (by kernel_rfl) (hp 4 (by kernel_rfl)) (hJ.vals 4 _ rfl (hp 4 (by kernel_rfl)))
          have t103 := hf.in (i := 6) (d := 103) (by kernel_rfl) (hp 6 (by kernel_rfl)) (hJ.vals 6 _ rfl (hp 6 (by kernel_rfl)))
          rw [if_pos (by rfl)]
          obtain ⟨vs, hlen, hvs, hS, hn⟩ := hJ.next (by kernel_rfl) 0 (by kernel_rfl) hl (.inl rfl) rfl (by kernel_rfl)
          match vs, hlen, hvs, hS, hn with
          | [], _, hvs, hS, hn =>
            go_simp
            refine (HO1.out _ hS.1).mono ?_
            rintro e wA ⟨v, O, rfl, hR, hLd, hbA⟩
            exact hK _ _ (hn _ _ ⟨hS.1.trans (hbA.mono hS.1.size), fun v hv => (hS.2 v hv).later hbA, O, hR, hLd⟩)
        case o12_8 =>
          intro LX V aX wX K hl hp hcl hf hJ hK
          have t97 := hf.in (i := 0) (d := 97) (by kernel_rfl) (hp 0 (by kernel_rfl)) rfl
          have t104 := hf.in (i := 7) (d := 104) (by kernel_rfl) (hp 7 (by kernel_rfl)) rfl
          rw [if_pos (by rfl)]
          obtain ⟨vs, hlen, hvs, hS, hn⟩ := hJ.next (by kernel_rfl) 1 (by kernel_rfl) hl (.inr (hp 7 (by kernel_rfl))) rfl (by kernel_rfl)
          have hF0 := flo_at (fl := [0]) (L := LX) (V := V) (i := 0) (by kernel_rfl) (hp 0 (by kernel_rfl))
          match vs, hlen, hvs, hS, hn with
          | [a0], _, hvs, hS, hn =>
            have e0 : V 7 = a0 := hvs 0 (by decide)
            obtain ⟨hSb, hSo, O, ⟨o1, o2, ho, hoi⟩, hLd⟩ := hS
            have h97 := hSo _ hF0
            refine opwp_append_intsF _ _ rfl wr.heap.size (V 0) [] (eval_tmp t97) h97 _ _ _ O (by rw [eval_tmp t104, e0]; exact ho) hoi (by have h8 := hLd.perm.length_eq; rw [List.length_take] at h8; obtain ⟨h9, h10⟩ := HH.out.2.2.2; rw [List.length_nil]; omega) hSb.size ?_
            intro v' w' hown2 hgr hfr
            rw [List.nil_append] at hown2
            exact hK _ _ (hn _ _ ⟨hSb.grown hgr hSb.size (fun g hg => (h97.lt g hg).1), O, hown2, hLd⟩)
        case o12_9 =>
          intro LX V aX wX K hl hp hcl hf hJ hK
          have t0 : aX.tmps[0]? = some (.slice ao n cap) := hf.old (by kernel_rfl) rfl
          rw [if_pos (by rfl)]
          go_simp
          exact hK _ _ (hJ.val 9 _ (by kernel_rfl) (by first | rfl | trivial) (by kernel_rfl) (fun _ _ h => h))
        case o12_10 =>
          intro LX V aX wX K hl hp hcl hf hJ hK
          have t7 : aX.tmps[7]? = some (.slice (some ⟨bo, oo, none⟩) m co) := hf.old (by kernel_rfl) rfl
          rw [if_pos (by rfl)]
          go_simp
          exact hK _ _ (hJ.val 10 _ (by kernel_rfl) (by first | rfl | trivial) (by kernel_rfl) (fun _ _ h => h))
        case o12_11 =>
          intro LX V aX wX K hl hp hcl hf hJ hK
          have t10 : aX.tmps[10]? = some (.int .i64 (hfn : Int)) := hf.old (by kernel_rfl) rfl
          rw [if_pos (by rfl)]
          go_simp
          exact hK _ _ (hJ.val 11 _ (by kernel_rfl) (by first | rfl | trivial) (by kernel_rfl) (fun _ _ h => h))
        case o12_12 =>
          intro LX V aX wX K hl hp hcl hf hJ hK
          have t107 := hf.in (i := 10) (d := 107) (by kernel_rfl) (hp 10 (by kernel_rfl)) (hJ.vals 10 _ rfl (hp 10 (by kernel_rfl)))
          have t108 := hf.in (i := 11) (d := 108) (by kernel_rfl) (hp 11 (by kernel_rfl)) (hJ.vals 11 _ rfl (hp 11 (by kernel_rfl)))
          obtain ⟨⟨h1, h0, h6, h7⟩, h2, h3, h4⟩ := HH.out
          rw [if_pos (by rfl)]
          go_simp
          exact hK _ _ (hJ.val 12 _ (by kernel_rfl) (by first | rfl | trivial) (by kernel_rfl) (fun _ _ h => h))
        case o12_13 =>
          intro LX V aX wX K hl hp hcl hf hJ hK
          have t2 : aX.tmps[2]? = some (.int .i64 (lev : Int)) := hf.old (by kernel_rfl) rfl
          rw [if_pos (by rfl)]
          go_simp
          exact hK _ _ (hJ.val 13 _ (by kernel_rfl) (by first | rfl | trivial) (by kernel_rfl) (fun _ _ h => h))
        case o12_14 =>
          intro LX V aX wX K hl hp hcl hf hJ hK
          have t110 := hf.in (i := 13) (d := 110) (by kernel_rfl) (hp 13 (by kernel_rfl)) (hJ.vals 13 _ rfl (hp 13 (by kernel_rfl)))
          have hl1 := HLV.out
          rw [if_pos (by rfl)]
          go_simp
          exact hK _ _ (hJ.val 14 _ (by kernel_rfl) (by first | rfl | trivial) (by kernel_rfl) (fun _ _ h => h))
        case o12_15 =>
          intro LX V aX wX K hl hp hcl hf hJ hK
          have t106 := hf.in (i := 9) (d := 106) (by kernel_rfl) (hp 9 (by kernel_rfl)) (hJ.vals 9 _ rfl (hp 9 (by kernel_rfl)))
          have t109 := hf.in (i := 12) (d := 109) (by kernel_rfl) (hp 12 (by kernel_rfl)) (hJ.vals 12 _ rfl (hp 12 (by kernel_rfl)))
          have t111 := hf.in (i := 14) (d := 111) (by kernel_rfl) (hp 14 (by kernel_rfl)) (hJ.vals 14 _ rfl (hp 14 (by kernel_rfl)))
          rw [if_pos (by rfl)]
          obtain ⟨vs, hlen, hvs, hS, hn⟩ := hJ.next (by kernel_rfl) 2 (by kernel_rfl) hl (.inr (hp 8 (by kernel_rfl))) rfl (by kernel_rfl)
          have hF0 := flo_at (fl := [0]) (L := LX) (V := V) (i := 0) (by kernel_rfl) (hcl.yes 8 (by kernel_rfl) (hp 8 (by kernel_rfl)))
          match vs, hlen, hvs, hS, hn with
          | [a0, a1], _, hvs, hS, hn =>
            have e0 : V 7 = a0 := hvs 0 (by decide)
            have e1 : V 8 = a1 := hvs 1 (by decide)
            obtain ⟨hSb, O, hO, hLd⟩ := hS
            go_simp
            refine (HO2.out _ hSb).mono ?_
            rintro e wA ⟨v, Q, rfl, hR, hLq, hbA⟩
            exact hK _ _ (hn _ _ ⟨hSb.trans (hbA.mono hSb.size), O, Q, hO.later hbA, hLd, hR, hLq⟩)
        case o12_16 =>
          intro LX V aX wX K hl hp hcl hf hJ hK
          have t105 := hf.in (i := 8) (d := 105) (by kernel_rfl) (hp 8 (by kernel_rfl)) rfl
          have t112 := hf.in (i := 15) (d := 112) (by kernel_rfl) (hp 15 (by kernel_rfl)) rfl
          rw [if_pos (by rfl)]
          obtain ⟨vs, hlen, hvs, hS, hn⟩ := hJ.next (by kernel_rfl) 3 (by kernel_rfl) hl (.inr (hp 15 (by kernel_rfl))) rfl (by kernel_rfl)
          have hF0 := flo_at (fl := [0]) (L := LX) (V := V) (i := 0) (by kernel_rfl) (hcl.yes 8 (by kernel_rfl) (hp 8 (by kernel_rfl)))
          match vs, hlen, hvs, hS, hn with
          | [a0, a1, a2], _, hvs, hS, hn =>
            have e0 : V 7 = a0 := hvs 0 (by decide)
            have e1 : V 8 = a1 := hvs 1 (by decide)
            have e2 : V 15 = a2 := hvs 2 (by decide)
            obtain ⟨hSb, O, Q, hO, hLd, ⟨o1, o2, ho, hoi⟩, hLq⟩ := hS
            refine opwp_append_intsF _ _ rfl wr.heap.size a1 O (by rw [eval_tmp t105, e1]) hO _ _ _ Q (by rw [eval_tmp t112, e2]; exact ho) hoi (by have h8 := hLd.perm.length_eq; have h11 := hLq.perm.length_eq; rw [List.length_take] at h8; rw [List.length_drop] at h11; obtain ⟨h9, h10⟩ := HH.out.2.2.2; omega) hSb.size ?_
            intro v' w' hown2 hgr hfr
            exact hK _ _ (hn _ _ ⟨hSb.grown hgr hSb.size (fun g hg => (hO.lt g hg).1), O, Q, hown2, hLd, hLq⟩)
        case o12_17 =>
          intro LX V aX wX K hl hp hcl hf hJ hK
          have t113 := hf.in (i := 16) (d := 113) (by kernel_rfl) (hp 16 (by kernel_rfl)) rfl
          rw [if_pos (by rfl)]
          obtain ⟨vs, hlen, hvs, hS, hn⟩ := hJ.next (by kernel_rfl) 4 (by kernel_rfl) hl (.inr (hp 16 (by kernel_rfl))) rfl (by kernel_rfl)
          have hF0 := flo_at (fl := [0]) (L := LX) (V := V) (i := 0) (by kernel_rfl) (hp 0 (by kernel_rfl))
          match vs, hlen, hvs, hS, hn with
          | [a0, a1, a2, a3], _, hvs, hS, hn =>
            have e0 : V 7 = a0 := hvs 0 (by decide)
            have e1 : V 8 = a1 := hvs 1 (by decide)
            have e2 : V 15 = a2 := hvs 2 (by decide)
            have e3 : V 16 = a3 := hvs 3 (by decide)
            go_simp
            exact hK _ _ (hn _ _ hS)
      intro V wZ hJ
      obtain ⟨vs, hlen, hvs, hS⟩ := hJ.all (by kernel_rfl)
      match vs, hlen, hvs, hS with
      | [a0, a1, a2, a3, a4], _, hvs, hS =>
        have e0 : V 7 = a0 := hvs 0 (by decide)
        have e1 : V 8 = a1 := hvs 1 (by decide)
        have e2 : V 15 = a2 := hvs 2 (by decide)
        have e3 : V 16 = a3 := hvs 3 (by decide)
        have e4 : V 17 = a4 := hvs 4 (by decide)
        have HS5 := Lib.hid hS
        simp only [puts, Act.put, List.setIfInBounds_toArray, List.set_cons_zero, List.set_cons_succ]
        rw [e4]
        clear hJ hvs hS
        go_wp2_with fail
        go_ret
        obtain ⟨hSb, O, Q, hO, hLd, hLq⟩ := HS5.out
        obtain ⟨a5, c5, hv5, hi5⟩ := hO.ints
        exact ⟨_, O ++ Q, rfl, ⟨a5, c5, hv5, hi5⟩, HF.out O Q hLd hLq, hbl.out.trans (hSb.mono hbl.out.size)⟩
end Go.Proofs.Ytlmmejdcjhbppaa
