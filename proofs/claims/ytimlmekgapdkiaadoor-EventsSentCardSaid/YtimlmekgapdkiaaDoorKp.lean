/- ears: both sides' memory through a list of steps -/
import Derived.Test.YtimlmekgapdkiaaDoorKn
import Derived.Test.YtimlmekgapdkiaaDoorKl
namespace Go.Proofs.YtimlmekgapdkiaaDoor
set_option linter.unusedVariables false
set_option linter.unusedSimpArgs false
open Go.RowKit Go.Cas

theorem SdRet.chg {tc tE te : TypeId} {B E : Nat} {vl vg : Value} {L : List EarV} {st : SnS} {w w' : World} {e : Ending} (h : SdRet tc tE te B E vl vg L st w e w') :
    ∃ vc, e = .returned (.tuple #[vc, .bool st.free]) ∧ w'.ownsRow w.heap.size tc 3 vc st.C.length (st.C.flatMap callc) ∧ EChg tE te B E vl vg L st.G w w' := by
  obtain ⟨vc, h1, h2, h3, h4⟩ := h
  exact ⟨vc, h1, h2, vl, vg, h3, fun _ _ h => h, h4.mono fun k _ e => .inr (.inr e)⟩
/-- what any sending leaves -/
def SdA (tc tE te : TypeId) (B E : Nat) (vl vg : Value) (L : List EarV) (G' : List Bool) (C : List ClV) (fr : Bool) (w : World) (e : Ending) (w' : World) : Prop :=
  ∃ vc, e = .returned (.tuple #[vc, .bool fr]) ∧ w'.ownsRow w.heap.size tc 3 vc C.length (C.flatMap callc) ∧ EChg tE te B E vl vg L G' w w'
theorem EChg.refl {tE te : TypeId} {B E : Nat} {vl vg : Value} {L : List EarV} {G : List Bool} {w w' : World} (h : EA tE te B E vl vg L G w) (hb : Below w.heap.size w w') : EChg tE te B E vl vg L G w w' :=
  ⟨vl, vg, h.below hb, fun _ _ h => h, Kept.of_below hb _⟩
theorem sendP_C (L : List EarV) (nm : ByteArray) (t : List Nat) (i : Nat) (r : Bool) (s : SnS) : (sendP L nm t i r s).C.length ≤ s.C.length + (2 * t.length + 2) * L.length := by
  have h1 := runG_C L nm 1 true t s
  have h2 := atP_C (L := L) (name := nm) (id := i) (ph := 2) (dn := true) (s := runG L nm 1 true t s)
  have h3 := atP_C (L := L) (name := nm) (id := i) (ph := 2) (dn := false) (s := atP L nm i 2 true (runG L nm 1 true t s))
  have h4 := runG_C L nm 3 false t.reverse (atP L nm i 2 false (atP L nm i 2 true (runG L nm 1 true t s)))
  rw [List.length_reverse] at h4
  have e : (2 * t.length + 2) * L.length = 2 * (t.length * L.length) + 2 * L.length := by rw [Nat.add_mul, Nat.mul_assoc]
  rw [e]
  unfold sendP
  repeat' split
  all_goals omega
theorem snd_any {T : List Nod} {d : Nat → Nat} (hW : WF T d) (hT : T.length ≤ 400) (hk : KV T) (z : Int) (nm : ByteArray) (r : Bool) (L : List EarV) (G : List Bool) (hL : L.length ≤ 200) : ∃ (G' : List Bool) (C : List ClV) (fr : Bool), C.length ≤ 1000000000 ∧
    (∀ (B R BE E : Nat) (F : Nat → Prop) (D : List (Value × List Nod)) (vl vg : Value) (w : World), TS B R T D F w → EA 116 64 BE E vl vg L G w → Calls Tryd.prog 30 #[.pointer (some ⟨E, 0, none⟩), .pointer (some ⟨R, 0, none⟩), .int .i64 z, .string nm, .bool r] w (SdA 130 116 64 BE E vl vg L G' C fr w)) ∧
    (∀ (B R L2 cap BE E : Nat) (τ : Nat → Nat) (M : List NV) (vl vg : Value) (w : World), RT B R L2 cap 0 (.slice none 0 0) [] τ M w → M.map NV.x = T → EA 58 60 BE E vl vg L G w → Calls Tryd.prog 31 #[.pointer (some ⟨E, 0, none⟩), rAg L2 M.length cap, .int .i64 z, .string nm, .bool r] w (SdA 129 58 60 BE E vl vg L G' C fr w)) := by
  by_cases hz : z < 0 ∨ (T.length : Int) ≤ z
  · refine ⟨G, [], true, by simp, fun B R BE E F D vl vg w h hE => ?_, fun B R L2 cap BE E τ M vl vg w h hM hE => ?_⟩
    · refine (c_SendNo h hT hz nm r).mono ?_
      rintro e w' ⟨rfl, rfl⟩
      exact ⟨_, rfl, World.ownsRow_nil _ _ _ _, EChg.refl hE (Below.refl _ _)⟩
    · refine (c_rSendNo h hM hT hz nm r).mono ?_
      rintro e w' ⟨rfl, hb⟩
      exact ⟨_, rfl, World.ownsRow_nil _ _ _ _, EChg.refl hE hb⟩
  · obtain ⟨i, rfl⟩ : ∃ i : Nat, z = (i : Int) := ⟨z.toNat, by omega⟩
    have hi : i < T.length := by omega
    obtain ⟨l, hl⟩ := Way.ex hW _ i (Nat.le_refl _) hi
    have hs := Way.short hW hl hi
    have hse := send_eq (L := L) (name := nm) (id := i) (rises := r) (s := sn0 G) (Way.nodupT hW hl hi) rfl rfl
    refine ⟨(sendP L nm l.dropLast i r (sn0 G)).G, (sendP L nm l.dropLast i r (sn0 G)).C, (sendP L nm l.dropLast i r (sn0 G)).free, ?_, fun B R BE E F D vl vg w h hE => ?_, fun B R L2 cap BE E τ M vl vg w h hM hE => ?_⟩
    · have := sendP_C L nm l.dropLast i r (sn0 G)
      have h2 : (sn0 G).C.length = 0 := rfl
      have h3 : (2 * l.dropLast.length + 2) * L.length ≤ 2000 * 200 := Nat.mul_le_mul (by simp; omega) hL
      omega
    · exact (c_eSend h hW hT hi (hk i hi) hl (by omega) hE hL nm r).mono fun e w' h => h.chg
    · refine (c_rSend h hM hW hT hi hl (by omega) hE hL nm r).mono fun e w' h => ?_
      rw [hse] at h
      exact h.chg
/-- both sides' ears -/
structure LW (S : World) (Bp E Br E2 : Nat) (vl vg vl2 vg2 : Value) (Lp : List EarV) (Gp : List Bool) (Lr : List EarV) (Gr : List Bool) (wr : World) : Prop where
  ep : EA 116 64 Bp E vl vg Lp Gp wr
  er : EA 58 60 Br E2 vl2 vg2 Lr Gr wr
  pe : ∀ k, exE E vl vg k → k = E ∨ S.heap.size ≤ k
  re : ∀ k, exE E2 vl2 vg2 k → k = E2 ∨ S.heap.size ≤ k
  dj : ∀ k, exE E vl vg k → ¬ exE E2 vl2 vg2 k
  kp : Kept S wr (fun k => k = E ∨ k = E2)
section
variable {S wr w' : World} {Bp E Br E2 : Nat} {vl vg vl2 vg2 : Value} {Lp Lr L' : List EarV} {Gp Gr G' : List Bool}
theorem LW.below (h : LW S Bp E Br E2 vl vg vl2 vg2 Lp Gp Lr Gr wr) (hb : Below wr.heap.size wr w') : LW S Bp E Br E2 vl vg vl2 vg2 Lp Gp Lr Gr w' :=
  ⟨h.ep.below hb, h.er.below hb, h.pe, h.re, h.dj, h.kp.then_ (Kept.of_below hb (fun _ => False)) (fun _ _ e => e.elim)⟩
theorem LW.chgP (h : LW S Bp E Br E2 vl vg vl2 vg2 Lp Gp Lr Gr wr) (c : EChg 116 64 Bp E vl vg L' G' wr w') : ∃ ul ug, LW S Bp E Br E2 ul ug vl2 vg2 L' G' Lr Gr w' := by
  obtain ⟨ul, ug, h1, h2, h3⟩ := c
  have hS := h.kp.size
  refine ⟨ul, ug, h1, h.er.keep fun k hk => h3.block k (h.er.fb hk).2 (fun e => h.dj k e hk), fun k hk => ?_, h.re, fun k hk hk2 => h.dj k (h2 k (h.er.fb hk2).2 hk) hk2, h.kp.then_ h3 fun k hk e => ?_⟩
  · by_cases hlt : k < wr.heap.size
    · exact h.pe k (h2 k hlt hk)
    · exact .inr (by omega)
  · rcases h.pe k e with e | e
    · exact .inl e
    · omega
theorem LW.chgR (h : LW S Bp E Br E2 vl vg vl2 vg2 Lp Gp Lr Gr wr) (c : EChg 58 60 Br E2 vl2 vg2 L' G' wr w') : ∃ ul ug, LW S Bp E Br E2 vl vg ul ug Lp Gp L' G' w' := by
  obtain ⟨ul, ug, h1, h2, h3⟩ := c
  have hS := h.kp.size
  refine ⟨ul, ug, h.ep.keep fun k hk => h3.block k (h.ep.fb hk).2 (fun e => h.dj k hk e), h1, h.pe, fun k hk => ?_, fun k hk hk2 => h.dj k hk (h2 k (h.ep.fb hk).2 hk2), h.kp.then_ h3 fun k hk e => ?_⟩
  · by_cases hlt : k < wr.heap.size
    · exact h.re k (h2 k hlt hk)
    · exact .inr (by omega)
  · rcases h.re k e with e | e
    · exact .inr e
    · omega
end
end Go.Proofs.YtimlmekgapdkiaaDoor
