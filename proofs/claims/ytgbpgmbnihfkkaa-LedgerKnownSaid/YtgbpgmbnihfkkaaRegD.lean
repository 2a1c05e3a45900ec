/- a drawn region whose last store (number d) writes a cell that its loads read: what the loads read is known till d comes up, and d waits for them -/
import Derived.Deep.RegionHeld
namespace Go.Proofs.Ytgbpgmbnihfkkaa
open Go
section
variable {P : Program} {ops : Array Oper} {Q : Exit → Act → World → Prop} {md : Region.Mode} {S : World → Prop} {d : Nat}
/-- whatever order is picked from here on; S holds behind each operation, d apart. -/
def anyD (P : Program) (md : Region.Mode) (ops : Array Oper) (Q : Exit → Act → World → Prop) (S : World → Prop) (d : Nat) : Nat → Array Bool → Act → World → Prop
  | 0, li, a, w => Region.ready md ops li = [] ∧ Q .normal a w
  | n + 1, li, a, w => (Region.ready md ops li = [] → Q .normal a w) ∧ ∀ i ∈ Region.ready md ops li, wpOp P ops Q i (fun a' w' => (i ≠ d → S w') ∧ anyD P md ops Q S d n (li.setIfInBounds i true) a' w') a w
theorem wpAny_of_D : ∀ (n : Nat) (li : Array Bool) (a : Act) (w : World), anyD P md ops Q S d n li a w → wpAny P md ops Q n li a w
  | 0, _, _, _, h => h
  | n + 1, _, _, _, h => ⟨h.1, fun i hi => wpOp_mono (fun a' w' k => wpAny_of_D n _ a' w' k.2) (h.2 i hi)⟩
/-- does d wait for i? -/
def waitsD (md : Region.Mode) (ops : Array Oper) (d i : Nat) : Bool := match ops[d]? with
  | some o => o.after.toList.any (fun e => Region.binds md e && e.on == i)
  | none => false
theorem waitsD_spec {i : Nat} {od : Oper} (h : waitsD md ops d i = true) (ho : ops[d]? = some od) : ∃ e ∈ od.after, Region.binds md e = true ∧ e.on = i := by
  unfold waitsD at h
  rw [ho] at h
  obtain ⟨e, he, hb⟩ := List.any_eq_true.1 h
  rw [Bool.and_eq_true, beq_iff_eq] at hb
  exact ⟨e, by simpa using he, hb⟩
theorem anyD_first {i : Nat} {oi : Oper} {v : Value} (hi : ops[i]? = some oi) (hsel : ∀ (j : Nat) (o : Oper) cs b, ops[j]? = some o → o.op ≠ .select cs b)
    (hQ : ∀ c a w, Q (.panic c) (a.put oi.dst v) w → Q (.panic c) a w) (hid : i ≠ d) (hwd : waitsD md ops d i = true) :
    ∀ (n : Nat) (li : Array Bool) (a : Act) (w : World),
      (∀ j oj, ops[j]? = some oj → j ≠ i → li.getD j true = false → (∀ e ∈ oj.after, Region.binds md e = true → e.on ≠ i) → oi.apart ops oj = true) →
      i ∈ Region.ready md ops li → YieldsIf P ops S oi v a → S w →
      anyD P md ops Q S d n (li.setIfInBounds i true) (a.put oi.dst v) w → anyD P md ops Q S d (n + 1) li a w := by
  intro n
  induction n with
  | zero =>
    intro li a w _ hr hy hS H
    refine ⟨fun h => (by rw [h] at hr; cases hr), fun j hj => ?_⟩
    by_cases e : j = i
    · subst e
      exact hy.wpOp hi hS ⟨fun _ => hS, H⟩
    · have := ready_mono hj e
      rw [H.1] at this
      cases this
  | succ n ih =>
    intro li a w hfree hr hy hS H
    refine ⟨fun h => (by rw [h] at hr; cases hr), fun j hj => ?_⟩
    by_cases hji : j = i
    · subst hji
      exact hy.wpOp hi hS ⟨fun _ => hS, H⟩
    · have h1 := H.2 j (ready_mono hj hji)
      obtain ⟨hjun, oj, hoj, hall⟩ := mem_ready.1 hj
      have hnot : ∀ e ∈ oj.after, Region.binds md e = true → e.on ≠ i := fun e he hb heq => by
        have q1 := hall e he hb
        have q0 := (mem_ready.1 hr).1
        rw [heq] at q1
        rcases Nat.lt_or_ge i li.size with q | q
        · simp [q] at q0 q1; rw [q0] at q1; cases q1
        · simp [Array.getElem?_eq_none q] at q1
      have hjd : j ≠ d := by
        rintro rfl
        obtain ⟨e, he, hb, heq⟩ := waitsD_spec hwd hoj
        exact hnot e he hb heq
      have h2 := wpOp_putIf hoj (hfree j oj hoj hji hjun hnot) (fun cs b => hsel i oi cs b hi) (fun cs b => hsel j oj cs b hoj) hQ hy h1
      have hfree' : ∀ k ok, ops[k]? = some ok → k ≠ i → (li.setIfInBounds j true).getD k true = false → (∀ e ∈ ok.after, Region.binds md e = true → e.on ≠ i) → oi.apart ops ok = true := fun k ok hk hki hun hno => by
        refine hfree k ok hk hki ?_ hno
        by_cases hjk : j = k
        · subst hjk
          exact hjun
        · rw [getD_set_ne true hjk] at hun
          exact hun
      refine wpOp_mono (fun a' w' h3 => ⟨h3.2.1, ih (li.setIfInBounds j true) a' w' hfree' (ready_mono hr (Ne.symm hji)) h3.1 (h3.2.1 hjd) ?_⟩) h2
      rw [Array.setIfInBounds_comm _ _ hji]
      exact h3.2.2
theorem anyD_take {i : Nat} {oi : Oper} {v : Value} {n : Nat} {li : Array Bool} {a : Act} {w : World} (hi : ops[i]? = some oi)
    (hs : Region.noSelect ops = true) (hf : Region.free md ops li i = true) (hr : (Region.ready md ops li).contains i = true) (hd : (decide (i ≠ d) && waitsD md ops d i) = true)
    (hQ : ∀ c a w, Q (.panic c) (a.put oi.dst v) w → Q (.panic c) a w) (hy : YieldsIf P ops S oi v a) (hS : S w)
    (h : anyD P md ops Q S d n (li.setIfInBounds i true) (a.put oi.dst v) w) : anyD P md ops Q S d (n + 1) li a w := by
  rw [Bool.and_eq_true, decide_eq_true_eq] at hd
  exact anyD_first hi (Region.noSelect_spec hs) hQ hd.1 hd.2 n li a w (Region.free_spec hi hf) (by simpa using hr) hy hS h
/-- d comes up with nothing beside it. -/
def AllD (P : Program) (md : Region.Mode) (ops : Array Oper) (Q : Exit → Act → World → Prop) (S : World → Prop) (d n : Nat) (li : Array Bool) (a : Act) (w : World) (rs : List Nat) : Prop :=
  ∀ i ∈ rs, wpOp P ops Q i (fun a' w' => (i ≠ d → S w') ∧ anyD P md ops Q S d n (li.setIfInBounds i true) a' w') a w
theorem AllD.nil {n : Nat} {li : Array Bool} {a : Act} {w : World} : AllD P md ops Q S d n li a w [] := fun _ h => by cases h
theorem AllD.cons {n : Nat} {li : Array Bool} {a : Act} {w : World} {i : Nat} {o : Oper} {rs : List Nat} (ho : ops[i]? = some o)
    (h : ∀ K' : Act → World → Prop, Shut (∀ a w, (i ≠ d → S w) → ((i ≠ d → S w) → anyD P md ops Q S d n (li.setIfInBounds i true) a w) → K' a w) → if Region.wanted o (yielded ops a.tmps) = true then Oper.wp P o a w K' Q else K' (a.put o.dst undef) w)
    (hs : AllD P md ops Q S d n li a w rs) : AllD P md ops Q S d n li a w (i :: rs) := fun j hj => by
  rcases List.mem_cons.1 hj with rfl | hj
  · exact wpOp_step ho (fun K' hK => h K' (fun a w hS hW => hK a w ⟨hS, hW hS⟩))
  · exact hs j hj
theorem anyD_ready {rs : List Nat} {n : Nat} {li : Array Bool} {a : Act} {w : World} (hr : Region.ready md ops li = rs) (hne : rs ≠ [])
    (h : AllD P md ops Q S d n li a w rs) : anyD P md ops Q S d (n + 1) li a w := ⟨fun h0 => absurd (hr ▸ h0) hne, hr ▸ h⟩
theorem anyD_done {li : Array Bool} {a : Act} {w : World} (hr : Region.ready md ops li = []) (h : Q .normal a w) : ∀ n, anyD P md ops Q S d n li a w
  | 0 => ⟨hr, h⟩
  | _ + 1 => ⟨fun _ => h, by rw [hr]; simp⟩
theorem wp_region_D (d : Nat) {S : World → Prop} {id : Nat} {a : Act} {w : World} (hm : P.follows .mixedOrders = true) (hS : S w.drew)
    (h : S w.drew → anyD P .any ops Q S d ops.size (Array.replicate ops.size false) a w.drew) : (Code.region id ops true).wp P Q a w :=
  wp_region_any hm (wpAny_of_D _ _ _ _ (h hS))
end
end Go.Proofs.Ytgbpgmbnihfkkaa
