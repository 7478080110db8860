/- the tree: elements, texts, comments; what is told of a node -/
import Derived.Test.YtimlmekgapdkiaaGreatDoorTmc
import Derived.Test.YtimlmekgapdkiaaGreatDoorTmd
namespace Go.Proofs.YtimlmekgapdkiaaGreatDoor
set_option linter.unusedVariables false
set_option linter.unusedSimpArgs false
open Go.RowKit Go.Cas

/-- the errors that are laid -/
structure GE (w : World) (B : Nat) (p : Nat → Addr) : Prop where
  name_ : w.cell? ⟨0, 0, none⟩ = some (.iface 135 (.pointer (some (p 3))))
  bound : w.cell? ⟨3, 0, none⟩ = some (.iface 135 (.pointer (some (p 2))))
  node : w.cell? ⟨1, 0, none⟩ = some (.iface 135 (.pointer (some (p 4))))
  place : w.cell? ⟨2, 0, none⟩ = some (.iface 135 (.pointer (some (p 5))))
  lt : (0 < B ∧ 3 < B ∧ 1 < B ∧ 2 < B) ∧ B ≤ w.heap.size
def errV (p : Nat → Addr) (k : Nat) : Value := .iface 135 (.pointer (some (p k)))
theorem GE.below {w w' : World} {B : Nat} {p : Nat → Addr} (h : GE w B p) (hb : Below B w w') : GE w' B p :=
  ⟨(hb.cell (p := ⟨0, 0, none⟩) h.lt.1.1).trans h.name_, (hb.cell (p := ⟨3, 0, none⟩) h.lt.1.2.1).trans h.bound,
   (hb.cell (p := ⟨1, 0, none⟩) h.lt.1.2.2.1).trans h.node, (hb.cell (p := ⟨2, 0, none⟩) h.lt.1.2.2.2).trans h.place, h.lt.1, Nat.le_trans h.lt.2 hb.size⟩
theorem GE.tree {w w' : World} {B R : Nat} {F : Nat → Prop} {T : List Nod} {D : List (Value × List Nod)} {p : Nat → Addr} (h : GE w B p) (ht : TS B R T D F w) (hk : Kept w w' F) : GE w' B p :=
  h.below (hk.below fun k hk => ⟨Nat.lt_of_lt_of_le hk h.lt.2, fun e => by have := (ht.fb e).1; omega⟩)
def ErRet (p : Nat → Addr) (k : Nat) (w : World) (e : Ending) (w' : World) : Prop := e = .returned (.tuple #[.int .i64 0, errV p k]) ∧ Below w.heap.size w w'
theorem c_add_no {w : World} {B R : Nat} {F : Nat → Prop} {T : List Nod} {D : List (Value × List Nod)} {p : Nat → Addr} (h : TS B R T D F w) (hG : GE w B p) (k : Int) (tag txt : ByteArray) (hT : T.length ≤ 400) (hs : txt.size ≤ maxLen) (hn : 400 ≤ T.length ∨ 20000 < txt.size) :
    Calls Tryz.prog 49 #[.pointer (some ⟨R, 0, none⟩), agN k tag txt] w (ErRet p 2 w) := by
  obtain ⟨L, cap, uv, Z, M, h1, hM⟩ := h
  have hlM : M.length = T.length := by rw [← hM]; simp
  rw [← hlM] at hT hn
  obtain ⟨g0, g1, g2, g3⟩ := h1.ns.heads
  have hr := h1.ns.ltR
  have e1 := hG.bound
  have e2 : 3 < w.heap.size := by have := hG.lt; omega
  unfold maxLen at hs
  clear h1 hM hlM hG
  unfold agN
  by_cases h4 : 400 ≤ M.length
  · have q : (400 : Int) ≤ (M.length : Int) := by omega
    clear hn
    go_enter Tryz.func49, Tryz.ntmps49
    go_wp2_with fail
    go_quiet (fail)
    go_wp2_with fail
    go_ret2
    exact ⟨rfl, bl_drewN (bl_alloc (bl_alloc (Below.refl _ _) _) _) _⟩
  · have q : ¬ (400 : Int) ≤ (M.length : Int) := by omega
    have q2 : (20000 : Int) < (txt.size : Int) := by omega
    clear hn h4
    go_enter Tryz.func49, Tryz.ntmps49
    go_wp2_with fail
    go_quiet (fail)
    go_wp2_with fail
    go_ret2
    exact ⟨rfl, bl_drewN (bl_alloc (bl_alloc (Below.refl _ _) _) _) _⟩
theorem TOp.of {w w' : World} {B R : Nat} {F : Nat → Prop} {T : List Nod} {D : List (Value × List Nod)} (h : TOp B R T D F w w') : ∃ F', TS B R T D F' w' ∧ (∀ k, k < w.heap.size → F' k → F k) ∧ Kept w w' F := h
/-- Text, Comment -/
theorem c_Text {w : World} {B R : Nat} {F : Nat → Prop} {T : List Nod} {D : List (Value × List Nod)} (h : TS B R T D F w) (hD : D.length ≤ 1000000000000) (txt : ByteArray) (hT : T.length < 400) (ht : txt.size ≤ 20000) :
    Calls Tryz.prog 23 #[.pointer (some ⟨R, 0, none⟩), .string txt] w (AdRet B R T D F (newN 3 ByteArray.empty txt) w) := by
  have HC := Lib.hid (c_add h hD 3 ByteArray.empty txt hT ht)
  unfold agN at HC
  clear h hD hT ht
  go_enter Tryz.func23, Tryz.ntmps23
  go_wp2_with ((go_at_call 49; refine (HC.out).mono ?_; rintro e w' ⟨rfl, hv⟩; have HV := Lib.hid hv; clear hv))
  go_ret2
  exact ⟨rfl, HV.out⟩
theorem c_Comment {w : World} {B R : Nat} {F : Nat → Prop} {T : List Nod} {D : List (Value × List Nod)} (h : TS B R T D F w) (hD : D.length ≤ 1000000000000) (txt : ByteArray) (hT : T.length < 400) (ht : txt.size ≤ 20000) :
    Calls Tryz.prog 24 #[.pointer (some ⟨R, 0, none⟩), .string txt] w (AdRet B R T D F (newN 4 ByteArray.empty txt) w) := by
  have HC := Lib.hid (c_add h hD 4 ByteArray.empty txt hT ht)
  unfold agN at HC
  clear h hD hT ht
  go_enter Tryz.func24, Tryz.ntmps24
  go_wp2_with ((go_at_call 49; refine (HC.out).mono ?_; rintro e w' ⟨rfl, hv⟩; have HV := Lib.hid hv; clear hv))
  go_ret2
  exact ⟨rfl, HV.out⟩
theorem c_Element {w : World} {B R : Nat} {F : Nat → Prop} {T : List Nod} {D : List (Value × List Nod)} (h : TS B R T D F w) (hD : D.length ≤ 1000000000000) (tag : ByteArray) (hT : T.length < 400) (hs : tag.size ≤ maxLen) (hn : isNm tag = true) :
    Calls Tryz.prog 20 #[.pointer (some ⟨R, 0, none⟩), .string tag] w (AdRet B R T D F (newN 2 tag ByteArray.empty) w) := by
  have HC := Lib.hid (c_add h hD 2 tag ByteArray.empty hT (by show (0 : Nat) ≤ 20000; omega))
  have HNM := Lib.hid (c_Name tag w hs)
  rw [hn] at HNM
  unfold agN at HC
  clear h hD hT hs hn
  go_enter Tryz.func20, Tryz.ntmps20
  go_wp2_with (first | (go_at_call 48; refine (HNM.out).mono ?_; rintro e w' ⟨rfl, rfl⟩) | (go_at_call 49; refine (HC.out).mono ?_; rintro e w' ⟨rfl, hv⟩; have HV := Lib.hid hv; clear hv))
  go_ret2
  exact ⟨rfl, HV.out⟩
theorem c_Element_bad {w : World} {B R : Nat} {p : Nat → Addr} (hG : GE w B p) (tag : ByteArray) (hs : tag.size ≤ maxLen) (hn : isNm tag = false) :
    Calls Tryz.prog 20 #[.pointer (some ⟨R, 0, none⟩), .string tag] w (ErRet p 3 w) := by
  have HNM := Lib.hid (c_Name tag w hs)
  rw [hn] at HNM
  have e1 := hG.name_
  have e2 : 0 < w.heap.size := by have := hG.lt; omega
  clear hs hn hG
  go_enter Tryz.func20, Tryz.ntmps20
  go_wp2_with (go_at_call 48; refine (HNM.out).mono ?_; rintro e w' ⟨rfl, rfl⟩)
  go_quiet (fail)
  go_wp2_with fail
  go_ret2
  exact ⟨rfl, bl_drewN (Below.refl _ _) _⟩
theorem c_Element_full {w : World} {B R : Nat} {F : Nat → Prop} {T : List Nod} {D : List (Value × List Nod)} {p : Nat → Addr} (h : TS B R T D F w) (hG : GE w B p) (tag : ByteArray) (hT : T.length = 400) (hs : tag.size ≤ maxLen) (hn : isNm tag = true) :
    Calls Tryz.prog 20 #[.pointer (some ⟨R, 0, none⟩), .string tag] w (ErRet p 2 w) := by
  have HC := Lib.hid (c_add_no h hG 2 tag ByteArray.empty (by omega) (by show (0 : Nat) ≤ maxLen; unfold maxLen; omega) (.inl (by omega)))
  have HNM := Lib.hid (c_Name tag w hs)
  rw [hn] at HNM
  unfold agN at HC
  clear h hT hs hn hG
  go_enter Tryz.func20, Tryz.ntmps20
  go_wp2_with (first | (go_at_call 48; refine (HNM.out).mono ?_; rintro e w' ⟨rfl, rfl⟩) | (go_at_call 49; refine (HC.out).mono ?_; rintro e w' ⟨rfl, hv⟩; have HV := Lib.hid hv; clear hv))
  go_ret2
  exact ⟨rfl, HV.out⟩
theorem c_Text_no {w : World} {B R : Nat} {F : Nat → Prop} {T : List Nod} {D : List (Value × List Nod)} {p : Nat → Addr} (h : TS B R T D F w) (hG : GE w B p) (txt : ByteArray) (hT : T.length ≤ 400) (hs : txt.size ≤ maxLen) (hn : 400 ≤ T.length ∨ 20000 < txt.size) :
    Calls Tryz.prog 23 #[.pointer (some ⟨R, 0, none⟩), .string txt] w (ErRet p 2 w) := by
  have HC := Lib.hid (c_add_no h hG 3 ByteArray.empty txt hT hs hn)
  unfold agN at HC
  clear h hT hs hn hG
  go_enter Tryz.func23, Tryz.ntmps23
  go_wp2_with ((go_at_call 49; refine (HC.out).mono ?_; rintro e w' ⟨rfl, hv⟩; have HV := Lib.hid hv; clear hv))
  go_ret2
  exact ⟨rfl, HV.out⟩
theorem c_Comment_no {w : World} {B R : Nat} {F : Nat → Prop} {T : List Nod} {D : List (Value × List Nod)} {p : Nat → Addr} (h : TS B R T D F w) (hG : GE w B p) (txt : ByteArray) (hT : T.length ≤ 400) (hs : txt.size ≤ maxLen) (hn : 400 ≤ T.length ∨ 20000 < txt.size) :
    Calls Tryz.prog 24 #[.pointer (some ⟨R, 0, none⟩), .string txt] w (ErRet p 2 w) := by
  have HC := Lib.hid (c_add_no h hG 4 ByteArray.empty txt hT hs hn)
  unfold agN at HC
  clear h hT hs hn hG
  go_enter Tryz.func24, Tryz.ntmps24
  go_wp2_with ((go_at_call 49; refine (HC.out).mono ?_; rintro e w' ⟨rfl, hv⟩; have HV := Lib.hid hv; clear hv))
  go_ret2
  exact ⟨rfl, HV.out⟩
/-- what is told of a node -/
theorem TS.ns {w : World} {B R : Nat} {F : Nat → Prop} {T : List Nod} {D : List (Value × List Nod)} (h : TS B R T D F w) : ∃ L cap uv Z M, NS B R L cap uv Z M w ∧ M.map NV.x = T ∧ (∀ k, Z k → F k) := by
  obtain ⟨L, cap, uv, Z, M, h1, h2⟩ := h
  exact ⟨L, cap, uv, Z, M, h1.ns, h2, fun k hk => h1.f k (.inr hk)⟩
theorem nv_get {M : List NV} {T : List Nod} {i : Nat} {x : Nod} (h : M.map NV.x = T) (hx : T[i]? = some x) : ∃ y, M[i]? = some y ∧ y.x = x := by
  rw [← h, List.getElem?_map] at hx
  cases hy : M[i]? with
  | none => rw [hy] at hx; cases hx
  | some y => rw [hy] at hx; exact ⟨y, rfl, Option.some.inj hx⟩
theorem c_Parent {w : World} {B R : Nat} {F : Nat → Prop} {T : List Nod} {D : List (Value × List Nod)} {i : Nat} {x : Nod} (h : TS B R T D F w) (hT : T.length ≤ 400) (hx : T[i]? = some x) :
    Calls Tryz.prog 13 #[.pointer (some ⟨R, 0, none⟩), .int .i64 (i : Int)] w fun e w' => e = .returned (.int .i64 x.pa) ∧ w = w' := by
  obtain ⟨L, cap, uv, Z, M, h1, hM, _⟩ := h.ns
  obtain ⟨y, hy, rfl⟩ := nv_get hM hx
  have hl : M.length ≤ 400 := by rw [← hM] at hT; simpa using hT
  have hi := (List.getElem?_eq_some_iff.1 hy).1
  have HI := Lib.hid (c_is_yes h1 i hi hl)
  obtain ⟨g0, _⟩ := h1.heads
  have hr := h1.ltR
  have hrL := h1.ltL
  obtain ⟨_, _, a4, _⟩ := h1.cell hy
  have hii : (i : Int) < (M.length : Int) := by omega
  clear h h1 hM hx hy
  go_enter Tryz.func13, Tryz.ntmps13
  go_wp2_with (go_at_call 45; refine (HI.out).mono ?_; rintro e w' ⟨rfl, rfl⟩)
  go_ret
  exact ⟨rfl, rfl⟩
end Go.Proofs.YtimlmekgapdkiaaGreatDoor
