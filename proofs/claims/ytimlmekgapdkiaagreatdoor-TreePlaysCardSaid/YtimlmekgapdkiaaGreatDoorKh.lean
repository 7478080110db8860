/- a drawn region whose last operations (that wait for all loads) may break the condition -/
import Derived.Test.YtimlmekgapdkiaaGreatDoorbase
import Derived.OrdersHeld
import Derived.Deep.RegionHeld
import Derived.Deep.AppendLies
namespace Go.Proofs.YtimlmekgapdkiaaGreatDoor
set_option linter.unusedVariables false
set_option linter.unusedSimpArgs false
open Go.RowKit Go.Cas

/-- none of E has come -/
def freshB (E : List Nat) (l : Array Bool) : Bool := E.all fun e => !(l.getD e true)
/-- whatever order is picked; S holds behind each operation as long as none of E has come -/
def wpAnyE (P : Program) (md : Region.Mode) (ops : Array Oper) (Q : Exit → Act → World → Prop) (S : World → Prop) (E : List Nat) : Nat → Array Bool → Act → World → Prop
  | 0, l, a, w => Region.ready md ops l = [] ∧ Q .normal a w
  | n + 1, l, a, w => (Region.ready md ops l = [] → Q .normal a w) ∧ ∀ i ∈ Region.ready md ops l, wpOp P ops Q i (fun a' w' => (freshB E (l.setIfInBounds i true) = true → S w') ∧ wpAnyE P md ops Q S E n (l.setIfInBounds i true) a' w') a w
/-- each of E waits for number i -/
def waitsB (md : Region.Mode) (ops : Array Oper) (E : List Nat) (i : Nat) : Bool :=
  E.all fun j => j != i && match ops[j]? with
    | some o => o.after.toList.any fun e => Region.binds md e && e.on == i
    | none => false
section
variable {P : Program} {ops : Array Oper} {Q : Exit → Act → World → Prop} {md : Region.Mode} {S : World → Prop} {E : List Nat}
theorem wpAnyE_any : ∀ (n : Nat) (l : Array Bool) (a : Act) (w : World), wpAnyE P md ops Q S E n l a w → wpAny P md ops Q n l a w
  | 0, _, _, _, h => h
  | n + 1, _, _, _, h => ⟨h.1, fun i hi => wpOp_mono (fun a' w' h' => wpAnyE_any n _ a' w' h'.2) (h.2 i hi)⟩
theorem waitsB_spec {i j : Nat} {o : Oper} (h : waitsB md ops E i = true) (hj : j ∈ E) (ho : ops[j]? = some o) : ∃ e ∈ o.after, Region.binds md e = true ∧ e.on = i := by
  have h1 := List.all_eq_true.1 h j hj
  rw [ho, Bool.and_eq_true] at h1
  obtain ⟨e, he, h2⟩ := List.any_eq_true.1 h1.2
  rw [Bool.and_eq_true] at h2
  exact ⟨e, by simpa using he, h2.1, by simpa using h2.2⟩
theorem waitsB_not {i : Nat} (h : waitsB md ops E i = true) : i ∉ E := fun hi => by
  have h1 := List.all_eq_true.1 h i hi
  rw [Bool.and_eq_true] at h1
  simp at h1
theorem freshB_set {j : Nat} {l : Array Bool} (h : freshB E l = true) (hj : j ∉ E) : freshB E (l.setIfInBounds j true) = true := by
  refine List.all_eq_true.2 fun e he => ?_
  have hne : j ≠ e := fun e2 => hj (by rw [e2]; exact he)
  rw [getD_set_ne true hne]
  exact List.all_eq_true.1 h e he
theorem wpAnyE_first {S' : World → Prop} {i : Nat} {oi : Oper} {v : Value} (hi : ops[i]? = some oi) (hsel : ∀ (j : Nat) (o : Oper) cs b, ops[j]? = some o → o.op ≠ .select cs b)
    (hQ : ∀ c a w, Q (.panic c) (a.put oi.dst v) w → Q (.panic c) a w) (hE : (waitsB md ops E i = true ∧ ∀ w, S w → S' w) ∨ ∀ w, S' w) (hiE : i ∉ E) :
    ∀ (n : Nat) (l : Array Bool) (a : Act) (w : World),
      (∀ j oj, ops[j]? = some oj → j ≠ i → l.getD j true = false → (∀ e ∈ oj.after, Region.binds md e = true → e.on ≠ i) → oi.apart ops oj = true) →
      i ∈ Region.ready md ops l → YieldsIf P ops S' oi v a → S' w → (freshB E (l.setIfInBounds i true) = true → S w) → ((∀ w, S' w) ∨ freshB E l = true) →
      wpAnyE P md ops Q S E n (l.setIfInBounds i true) (a.put oi.dst v) w → wpAnyE P md ops Q S E (n + 1) l a w := by
  intro n
  induction n with
  | zero =>
    intro l a w _ hr hy hS hS0 _ H
    refine ⟨fun h => (by rw [h] at hr; cases hr), fun j hj => ?_⟩
    by_cases hji : j = i
    · subst hji; exact hy.wpOp hi hS ⟨hS0, H⟩
    · have := ready_mono hj hji
      rw [H.1] at this
      cases this
  | succ n ih =>
    intro l a w hfree hr hy hS hS0 hfr H
    refine ⟨fun h => (by rw [h] at hr; cases hr), fun j hj => ?_⟩
    by_cases hji : j = i
    · subst hji; exact hy.wpOp hi hS ⟨hS0, H⟩
    have hrest := H.2 j (ready_mono hj hji)
    obtain ⟨hjun, oj, hoj, hall⟩ := mem_ready.1 hj
    have hnot : ∀ e ∈ oj.after, Region.binds md e = true → e.on ≠ i := fun e he hb heq => by
      have h1 := hall e he hb
      have h0 := (mem_ready.1 hr).1
      rw [heq] at h1
      rcases Nat.lt_or_ge i l.size with h' | h'
      · simp [h'] at h0 h1; rw [h0] at h1; cases h1
      · simp [Array.getElem?_eq_none h'] at h1
    have hjE : ∀ w', (freshB E ((l.setIfInBounds i true).setIfInBounds j true) = true → S w') → S' w' ∧ ((∀ w, S' w) ∨ freshB E (l.setIfInBounds j true) = true) := fun w' h => by
      rcases hE with ⟨hE, hSS⟩ | hE
      · rcases hfr with hfr | hfr
        · exact ⟨hfr w', .inl hfr⟩
        · have hnj : j ∉ E := fun hc => by
            obtain ⟨e, he, hb, heq⟩ := waitsB_spec hE hc hoj
            exact absurd heq (hnot e he hb)
          exact ⟨hSS _ (h (freshB_set (freshB_set hfr (waitsB_not hE)) hnj)), .inr (freshB_set hfr hnj)⟩
      · exact ⟨hE w', .inl hE⟩
    have hput := wpOp_putIf hoj (hfree j oj hoj hji hjun hnot) (fun cs b => hsel i oi cs b hi) (fun cs b => hsel j oj cs b hoj) hQ hy hrest
    have hfree' : ∀ k ok, ops[k]? = some ok → k ≠ i → (l.setIfInBounds j true).getD k true = false →
        (∀ e ∈ ok.after, Region.binds md e = true → e.on ≠ i) → oi.apart ops ok = true := fun k ok hk hki hun hno => by
      refine hfree k ok hk hki ?_ hno
      by_cases hjk : j = k
      · subst hjk; exact hjun
      · rw [getD_set_ne true hjk] at hun; exact hun
    refine wpOp_mono (fun a' w' h3 => ?_) hput
    obtain ⟨h4, h5, h6⟩ := h3
    obtain ⟨h7, h8⟩ := hjE w' h5
    rw [Array.setIfInBounds_comm _ _ (Ne.symm hji)] at h5 h6
    exact ⟨fun hf => h5 (freshB_set hf hiE), ih (l.setIfInBounds j true) a' w' hfree' (ready_mono hr (Ne.symm hji)) h4 h7 h5 h8 h6⟩
theorem wpAnyE_take {i : Nat} {oi : Oper} {v : Value} {n : Nat} {l : Array Bool} {a : Act} {w : World} (hi : ops[i]? = some oi)
    (hs : Region.noSelect ops = true) (hf : Region.free md ops l i = true) (hr : (Region.ready md ops l).contains i = true) (hE : (waitsB md ops E i && freshB E l) = true)
    (hQ : ∀ c a w, Q (.panic c) (a.put oi.dst v) w → Q (.panic c) a w) (hy : YieldsIf P ops S oi v a) (hS : S w)
    (h : wpAnyE P md ops Q S E n (l.setIfInBounds i true) (a.put oi.dst v) w) : wpAnyE P md ops Q S E (n + 1) l a w := by
  rw [Bool.and_eq_true] at hE
  exact wpAnyE_first hi (Region.noSelect_spec hs) hQ (.inl ⟨hE.1, fun _ h => h⟩) (waitsB_not hE.1) n l a w (Region.free_spec hi hf) (by simpa using hr) hy hS (fun _ => hS) (.inr hE.2) h
/-- what yields its value in any world -/
theorem wpAnyE_take0 {i : Nat} {oi : Oper} {v : Value} {n : Nat} {l : Array Bool} {a : Act} {w : World} (hi : ops[i]? = some oi)
    (hs : Region.noSelect ops = true) (hf : Region.free md ops l i = true) (hr : (Region.ready md ops l).contains i = true) (hE : E.contains i = false)
    (hQ : ∀ c a w, Q (.panic c) (a.put oi.dst v) w → Q (.panic c) a w) (hy : YieldsIf P ops (fun _ => True) oi v a) (hS : freshB E l = true → S w)
    (h : wpAnyE P md ops Q S E n (l.setIfInBounds i true) (a.put oi.dst v) w) : wpAnyE P md ops Q S E (n + 1) l a w := by
  have hiE : i ∉ E := fun h => by rw [List.contains_iff_mem.2 h] at hE; cases hE
  refine wpAnyE_first hi (Region.noSelect_spec hs) hQ (.inr fun _ => trivial) hiE n l a w (Region.free_spec hi hf) (by simpa using hr) hy trivial (fun hf2 => hS (List.all_eq_true.2 fun e he => ?_)) (.inl fun _ => trivial) h
  have hne : i ≠ e := fun e2 => hiE (by rw [e2]; exact he)
  have := List.all_eq_true.1 hf2 e he
  rw [getD_set_ne true hne] at this
  exact this
/-- the only ones that may come up are rs -/
def AllE (P : Program) (md : Region.Mode) (ops : Array Oper) (Q : Exit → Act → World → Prop) (S : World → Prop) (E : List Nat) (n : Nat) (l : Array Bool) (a : Act) (w : World) (rs : List Nat) : Prop :=
  ∀ i ∈ rs, wpOp P ops Q i (fun a' w' => (freshB E (l.setIfInBounds i true) = true → S w') ∧ wpAnyE P md ops Q S E n (l.setIfInBounds i true) a' w') a w
theorem AllE.nil {n : Nat} {l : Array Bool} {a : Act} {w : World} : AllE P md ops Q S E n l a w [] := fun _ h => by cases h
theorem AllE.cons {n : Nat} {l : Array Bool} {a : Act} {w : World} {i : Nat} {o : Oper} {rs : List Nat} (ho : ops[i]? = some o)
    (h : ∀ K' : Act → World → Prop, Shut (∀ a w, S w → (S w → wpAnyE P md ops Q S E n (l.setIfInBounds i true) a w) → K' a w) → if Region.wanted o (yielded ops a.tmps) = true then Oper.wp P o a w K' Q else K' (a.put o.dst undef) w)
    (hs : AllE P md ops Q S E n l a w rs) : AllE P md ops Q S E n l a w (i :: rs) := fun j hj => by
  rcases List.mem_cons.1 hj with rfl | hj
  · exact wpOp_step ho (fun K' hK => h K' (fun a w hS hW => hK a w ⟨fun _ => hS, hW hS⟩))
  · exact hs j hj
theorem AllE.last {n : Nat} {l : Array Bool} {a : Act} {w : World} {i : Nat} {o : Oper} {rs : List Nat} (ho : ops[i]? = some o) (hi : freshB E (l.setIfInBounds i true) = false)
    (h : ∀ K' : Act → World → Prop, Shut (∀ a w, wpAnyE P md ops Q S E n (l.setIfInBounds i true) a w → K' a w) → if Region.wanted o (yielded ops a.tmps) = true then Oper.wp P o a w K' Q else K' (a.put o.dst undef) w)
    (hs : AllE P md ops Q S E n l a w rs) : AllE P md ops Q S E n l a w (i :: rs) := fun j hj => by
  rcases List.mem_cons.1 hj with rfl | hj
  · exact wpOp_step ho (fun K' hK => h K' (fun a w hW => hK a w ⟨fun e => (by rw [hi] at e; cases e), hW⟩))
  · exact hs j hj
theorem wpAnyE_ready {rs : List Nat} {n : Nat} {l : Array Bool} {a : Act} {w : World} (hr : Region.ready md ops l = rs) (hne : rs ≠ [])
    (h : AllE P md ops Q S E n l a w rs) : wpAnyE P md ops Q S E (n + 1) l a w := ⟨fun h0 => absurd (hr ▸ h0) hne, hr ▸ h⟩
theorem wpAnyE_done {l : Array Bool} {a : Act} {w : World} (hr : Region.ready md ops l = []) (h : Q .normal a w) : ∀ n, wpAnyE P md ops Q S E n l a w
  | 0 => ⟨hr, h⟩
  | _ + 1 => ⟨fun _ => h, by rw [hr]; simp⟩
theorem wp_regionE {id : Nat} {a : Act} {w : World} (E : List Nat) (hm : P.follows .mixedOrders = true) (hS : S w.drew)
    (h : S w.drew → wpAnyE P .any ops Q S E ops.size (Array.replicate ops.size false) a w.drew) : (Code.region id ops true).wp P Q a w :=
  wp_region_any hm (wpAnyE_any _ _ _ _ (h hS))
end
/-- what an append leaves -/
structure PU (wc : World) (base : Nat) (e : TypeId) (size : Nat) (v : Value) (n : Nat) (xs ys : List Value) (g cap : Nat) (w' : World) : Prop where
  own : w'.ownsRow base e size (.slice (some ⟨g, 0, none⟩) (n + 1) cap) (n + 1) (xs ++ ys)
  grown : wc.grownBy w' v.ownBlock
  at_ : v.ownBlock = some g ∨ g = wc.heap.size
  lt : g < w'.heap.size
theorem own_drew {w : World} {base n size : Nat} {e : TypeId} {v : Value} {xs : List Value} (h : w.ownsRow base e size v n xs) : w.drew.ownsRow base e size v n xs := h
theorem PU.kept {wc w' : World} {base n size g cap : Nat} {e : TypeId} {v : Value} {xs ys : List Value} (h : PU wc base e size v n xs ys g cap w') : Kept wc w' (fun k => v.ownBlock = some k) := Kept.grown h.grown _ (fun _ e => e)
theorem PU.other {wc w' : World} {base n size g cap : Nat} {e : TypeId} {v : Value} {xs ys : List Value} (h : PU wc base e size v n xs ys g cap w') {b2 : Nat} {e2 : TypeId} {s2 m : Nat} {u : Value} {us : List Value} (ho : wc.ownsRow b2 e2 s2 u m us) (hs : Sep v u) : w'.ownsRow b2 e2 s2 u m us :=
  own_keep ho fun k hk => h.kept.block k (own_lt ho hk).2 (fun e => hs k e hk)
theorem step_push {P : Program} {wc : World} {ops : Array Oper} {o : Oper} {a : Act} {K : Act → World → Prop} {Q : Exit → Act → World → Prop} {E : Prop} (hgd : o.guard = none) (s x : Operand) (t : TypeId)
    (ho : o.op = .call { callee := .builtin .append, args := #[s, x], argTypes := #[t, t] })
    (base : Nat) (e : TypeId) {z : Value} {size bytes : Nat} (ht : P.underlying t = some (.slice e)) (inf : (P.info? e).map (fun i => (i.zero, i.size, i.bytes)) = some (some z, size, bytes))
    (hzs : z.cells.size = size) (hsz : 0 < size) (v : Value) (n : Nat) (xs : List Value) (b : Nat) (ys : List Value) (hs : a.eval s = v) (hx : a.eval x = .slice (some ⟨b, 0, none⟩) 1 1)
    (hown : wc.ownsRow base e size v n xs) (hb : Bk wc b e ys.toArray) (hl : ys.length = size) (h1 : ∀ u ∈ ys, u.oneCell' = true)
    (hbytes : (n + 1) * bytes ≤ 140737488355328) (h63 : n + 1 ≤ 140737488355328) (hbase : base ≤ wc.heap.size)
    (h : ∀ g cap w', PU wc base e size v n xs ys g cap w' → K (a.put o.dst (.slice (some ⟨g, 0, none⟩) (n + 1) cap)) w') :
    if Region.wanted o (yielded ops a.tmps) = true then Oper.wp P o a wc K Q else E := by
  obtain ⟨i, hi, hz, h3, h4⟩ := info_parts inf
  exact step_append_lies wc hgd s x t ho base e i z size bytes ht hi hz h3 h4 hzs hsz v n xs hs hown ⟨b, 0, none⟩ 1 1 ys hx (by rw [Nat.one_mul]; exact hl) (World.news_of_block hb) h1 (by decide) (by unfold maxLen; omega) hbytes hbase wc.heap.size rfl (fun g cap w' h2 h3 h4 h5 => h g cap w' ⟨h2, h3, h4, h5⟩)
end Go.Proofs.YtimlmekgapdkiaaGreatDoor
