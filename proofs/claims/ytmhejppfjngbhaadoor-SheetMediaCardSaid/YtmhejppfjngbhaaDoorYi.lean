/- sheets: a text under way (strings.Builder); strings' forms: the program's -/
import Derived.Test.YtmhejppfjngbhaaDoorYh
import Derived.Shelf.Strings.Builder1
namespace Go.Proofs.YtmhejppfjngbhaaDoor
set_option linter.unusedVariables false
set_option linter.unusedSimpArgs false
open Go.RowKit Go.Cas Go.Shelf

abbrev tB : TypeId := 68
theorem bld_size : (Tryd.prog.info? tB).map (·.size) = some 2 := by kernel_rfl
theorem bld_lies : liesAt Tryd.prog Tryd.prog.depth tB (2 / Tryd.prog.cellsOf tB) 0 tB 1 = true := by kernel_rfl
theorem inf_by : (Tryd.prog.info? 5).map (fun i => (i.zero, i.size, i.bytes)) = some (some (.int .u8 0), 1, 1) := by kernel_rfl
set_option maxHeartbeats 1000000 in
set_option maxRecDepth 100000 in
theorem c_ccUsed (b : Nat) (w : World) (h0 : w.cell? ⟨b, 0, none⟩ = some (.pointer (some ⟨b, 0, none⟩))) : Calls Tryd.prog 64 #[.pointer (some ⟨b, 0, none⟩)] w fun e w' => (∃ u, e = .returned u) ∧ w = w' := by
  obtain ⟨j, hj, _⟩ := Option.map_eq_some_iff.1 bld_size
  go_enter Tryd.func64, Tryd.ntmps64
  go_wp2
  rw [Lib.run_neq_ptr_same w _ Tryd.underlying66 hj]
  go_wp2
  go_end0
  exact ⟨⟨_, rfl⟩, rfl⟩
set_option maxHeartbeats 1000000 in
set_option maxRecDepth 100000 in
theorem c_ccFresh (b : Nat) (w : World) (h0 : w.cell? ⟨b, 0, none⟩ = some (.pointer none)) (hsh : w.shape? b = some (tB, 2)) (hfz : w.frozen? ⟨b, 0, none⟩ = false) :
    Calls Tryd.prog 64 #[.pointer (some ⟨b, 0, none⟩)] w fun e w' => (∃ u, e = .returned u) ∧ w' = w.setCell ⟨b, 0, none⟩ (.pointer (some ⟨b, 0, none⟩)) := by
  obtain ⟨j, hj, hjs⟩ := Option.map_eq_some_iff.1 bld_size
  go_enter Tryd.func64, Tryd.ntmps64
  go_wp2
  rw [Lib.run_to_unsafe w ⟨b, 0, none⟩ Tryd.underlying66 Tryd.underlying88 hj (by rw [hjs]; decide) hsh (Nat.zero_lt_succ 1)]
  simp only [Result.andThen]
  rw [Oper.upon_value]
  go_wp2
  rw [run_callFunc_extern Tryd.func72 (by kernel_rfl) (by kernel_rfl) (by kernel_rfl) (e := Extern.AbiNoEscape.same) (by kernel_rfl)]
  rw [Lib.run_noEscape]
  simp only [Result.andThen]
  rw [Oper.upon_value]
  go_wp2
  rw [Lib.run_from_unsafe w ⟨b, 0, none⟩ Tryd.underlying88 Tryd.underlying66 hj hsh bld_lies]
  simp only [Result.andThen]
  rw [Oper.upon_value]
  go_wp2
  go_end0
  exact ⟨⟨_, rfl⟩, rfl⟩
/-- a builder of the call's own that holds the bytes l -/
def BI (B b : Nat) (l : List UInt8) (w : World) : Prop := Lib.IsBuilder tB 5 B b (Lib.byteCells l) w
def BU (B b : Nat) (l : List UInt8) (w : World) : Prop := Lib.BuilderAt tB 5 B b (.pointer (some ⟨b, 0, none⟩)) (Lib.byteCells l) w
theorem BU.i {B b : Nat} {l : List UInt8} {w : World} (h : BU B b l w) : BI B b l w := .inr h
theorem c_cc {B b : Nat} {l : List UInt8} {w : World} (h : BI B b l w) : Calls Tryd.prog 64 #[.pointer (some ⟨b, 0, none⟩)] w fun e w' => (∃ u, e = .returned u) ∧ BU B b l w' ∧ Below B w w' := by
  rcases h with h | h
  · refine (c_ccFresh b w h.cell0 h.shape h.frozen0).mono ?_
    rintro e w' ⟨hu, rfl⟩
    exact ⟨hu, h.used _, (Below.refl B w).setCell (p := ⟨b, 0, none⟩) h.1 _⟩
  · refine (c_ccUsed b w h.cell0).mono ?_
    rintro e w' ⟨hu, rfl⟩
    exact ⟨hu, h, Below.refl B _⟩
set_option maxHeartbeats 4000000 in
set_option maxRecDepth 100000 in
theorem c_WriteByte {B b : Nat} {l : List UInt8} {w : World} (h : BI B b l w) (c : UInt8) (hl : l.length ≤ 140737488355327) (hB : B ≤ w.heap.size) :
    Calls Tryd.prog 49 #[.pointer (some ⟨b, 0, none⟩), .int .u8 (c.toNat : Int)] w fun e w' => (∃ u, e = .returned u) ∧ BU B b (l ++ [c]) w' ∧ Below B w w' := by
  have HC := Lib.hid (c_cc h)
  clear h
  go_enter Tryd.func49, Tryd.ntmps49
  go_upto_region 2 with (go_at_call 64; refine (HC.out).mono ?_; rintro e w1 ⟨⟨u, rfl⟩, h1, hb1⟩; have H1 := Lib.hid h1; have HB1 := Lib.hid hb1; clear h1 hb1)
  obtain ⟨hB2, v, hbk, hown, hne⟩ := H1.out
  have hlc : (Lib.byteCells l).length = l.length := Lib.byteCells_length l
  rw [hlc] at hown
  have HOW := Lib.hid hown
  have HBK : Hid (Bk w1 b tB #[.pointer (some ⟨b, 0, none⟩), v]) := hbk
  have HNE := Lib.hid hne
  have c0 := HBK.out.cell 0
  have c1 := HBK.out.cell 1
  have hlt := HBK.out.lt
  have hz : B ≤ w1.heap.size := Nat.le_trans hB HB1.out.size
  have HB2 := Lib.hid hB2
  clear hbk hown hne hlc
  go_wp2_with (at_builtin; refine wp_push rfl _ _ 58 rfl B 5 Tryd.underlying58 inf_by rfl (by decide) w1 v l.length (Lib.byteCells l) [.int .u8 (c.toNat : Int)] rfl rfl rfl HOW.out rfl (by simp [Value.oneCell']) (by omega) (by omega) hz ?_; intro v4 w4 hpush; obtain ⟨g4, c4, rfl, _, _⟩ := hpush.own.form (by omega); have HPU := Lib.hid hpush; have hbk4 := HBK.out.grown hpush.grown (fun e => HNE.out e.symm); have q0 := hbk4.cell 0; have q1 := hbk4.cell 1; have q2 := hbk4.free 1; have q3 := hbk4.lt; clear hpush hbk4)
  go_ret
  refine ⟨⟨_, rfl⟩, ?_, ?_⟩
  · have hbk4 : w4.heap[b]? = some (.cells #[.pointer (some ⟨b, 0, none⟩), v] tB (0, 0)) := HBK.out.grown HPU.out.grown (fun e => HNE.out e.symm)
    have ho4 := HPU.out.own
    have hl2 : Lib.byteCells (l ++ [c]) = Lib.byteCells l ++ [.int .u8 (c.toNat : Int)] := by simp [Lib.byteCells]
    have hl3 : (Lib.byteCells (l ++ [c])).length = l.length + 1 := by rw [Lib.byteCells_length]; simp
    refine Lib.BuilderAt.put HB2.out hbk4 (by rw [hl3, hl2]; exact ho4) (by decide)
  · exact (HB1.out.trans (HPU.out.below (Below.refl _ _) (Nat.le_refl _) hz)).setCell (p := ⟨b, 1, none⟩) HB2.out _
theorem BI.new (w : World) : BI w.heap.size w.heap.size [] (w.alloc (.cells #[.pointer none, .slice none 0 0] tB)) :=
  .inl ⟨Nat.le_refl _, .slice none 0 0, by show (w.heap.push _)[w.heap.size]? = _; simp, World.ownsRow_nil _ _ _ _, by simp [Value.ownBlock]⟩
theorem BI.below {B b : Nat} {l : List UInt8} {w w' : World} (h : BI B b l w) (hb : Below w.heap.size w w') : BI B b l w' := by
  have key : ∀ p, Lib.BuilderAt tB 5 B b p (Lib.byteCells l) w → Lib.BuilderAt tB 5 B b p (Lib.byteCells l) w' := fun p ⟨h1, v, h2, h3, h4⟩ =>
    ⟨h1, v, (hb.block b (Lib.BuilderAt.lt ⟨h1, v, h2, h3, h4⟩)).trans h2, own_keep h3 (fun k hk => hb.block k (own_lt h3 hk).2), h4⟩
  rcases h with h | h
  · exact .inl (key _ h)
  · exact .inr (key _ h)
theorem c_WB {B b : Nat} {l : List UInt8} {w : World} (h : BI B b l w) (c : UInt8) (n : Int) (hn : n = (c.toNat : Int)) (hl : l.length ≤ 140737488355327) (hB : B ≤ w.heap.size) :
    Calls Tryd.prog 49 #[.pointer (some ⟨b, 0, none⟩), .int .u8 n] w fun e w' => (∃ u, e = .returned u) ∧ BU B b (l ++ [c]) w' ∧ Below B w w' := by subst hn; exact c_WriteByte h c hl hB
theorem esc_len (l : List UInt8) : (l.flatMap esc).length ≤ 2 * l.length := by
  induction l with
  | nil => simp
  | cons a l ih =>
    rw [List.flatMap_cons, List.length_append, List.length_cons]
    have : (esc a).length ≤ 2 := by unfold esc; split <;> simp
    omega
theorem esc_hit {c : UInt8} (h : c = 34 ∨ c = 92) : esc c = [92, c] := by unfold esc; rw [if_pos h]
theorem esc_miss {c : UInt8} (h : ¬ (c = 34 ∨ c = 92)) : esc c = [c] := by unfold esc; rw [if_neg h]
theorem esc_take {s : ByteArray} {k : Nat} (h : k < s.size) : (s.data.toList.take (k + 1)).flatMap esc = (s.data.toList.take k).flatMap esc ++ esc s[k] := by
  rw [List.take_succ_eq_append_getElem (by simpa using h), List.flatMap_append]
  simp
  rfl
set_option maxHeartbeats 4000000 in
set_option maxRecDepth 100000 in
theorem c_Quoted (s : ByteArray) (w : World) (hs : s.size ≤ 1000000000) : Calls Tryd.prog 47 #[.string s] w fun e w' => e = .returned (.string ⟨(quo s.data.toList).toArray⟩) ∧ Below w.heap.size w w' := by
  obtain ⟨b, hb⟩ : ∃ b, b = w.heap.size := ⟨_, rfl⟩
  obtain ⟨w1, hw1⟩ : ∃ w1, w1 = w.alloc (.cells #[.pointer none, .slice none 0 0] tB) := ⟨_, rfl⟩
  have hbl : Below w.heap.size w w1 := by rw [hw1]; exact bl_alloc (Below.refl _ _) _
  have hbi : BI w.heap.size b [] w1 := by rw [hw1, hb]; exact BI.new w
  have HW := Lib.hid (c_WB hbi 34 34 rfl (by simp) hbl.size)
  have HW1 := Lib.hid hw1
  have HBL := Lib.hid hbl
  have HB := Lib.hid hb
  have hsI : (s.size : Int) ≤ 1000000000 := by omega
  clear hw1 hbl hbi hb
  go_enter Tryd.func47, Tryd.ntmps47
  go_upto_region 2 with fail
  rw [← HW1.out, ← HB.out]
  go_wp2_with (go_at_call 49; refine (HW.out).mono ?_; rintro e w2 ⟨⟨u, rfl⟩, h2, hb2⟩; have H2 := Lib.hid h2; have HB2 := Lib.hid (HBL.out.trans hb2); clear h2 hb2)
  go_loopw [8] (fun v wr => ∃ (k : Nat), k ≤ s.size ∧ v = .int .i64 (k : Int) ∧ Hid (BU w.heap.size b (34 :: (s.data.toList.take k).flatMap esc) wr ∧ Below w.heap.size w wr)) (fun v _ => s.size - (intOf v).toNat)
  case atStart => exact ⟨0, by omega, rfl, H2.out, HB2.out⟩
  case round =>
    obtain ⟨k, hk, rfl, HS⟩ := hrel
    have hle : (34 :: (s.data.toList.take k).flatMap esc).length ≤ 2 * s.size + 1 := by
      have h1 := esc_len (s.data.toList.take k)
      rw [List.length_take] at h1
      rw [List.length_cons]
      have h2 : min k s.data.toList.length ≤ k := Nat.min_le_left _ _
      omega
    have hz := HS.out.2.size
    by_cases hlt : k < s.size
    · have hki : (k : Int) < (s.size : Int) := by omega
      have HET := Lib.hid (esc_take hlt)
      by_cases hq : s[k] = 34 ∨ s[k] = 92
      · have HEQ := Lib.hid (esc_hit hq)
        have HA := Lib.hid (c_WB HS.out.1.i 92 92 rfl (by omega) hz)
        have hle2 : ((34 :: (s.data.toList.take k).flatMap esc) ++ [92]).length ≤ 140737488355327 := by rw [List.length_append]; simp only [List.length_cons, List.length_nil] at hle ⊢; omega
        have HLE := Lib.hid hle2
        rcases hq with hq | hq
        · have hq2 : (s[k].toNat : Int) = 34 := by rw [hq]; rfl
          have HCH := Lib.hid hq
          clear hq hle hle2
          go_upto_region 8 with (go_at_call 49; refine (HA.out).mono ?_; rintro e w3 ⟨⟨u3, rfl⟩, h3, hb3⟩; have H3 := Lib.hid h3; have HB3 := Lib.hid (HS.out.2.trans hb3); clear h3 hb3)
          have HA2 := Lib.hid (c_WB H3.out.i 34 34 rfl HLE.out HB3.out.size)
          go_wp2_with (go_at_call 49; refine (HA2.out).mono ?_; rintro e w4 ⟨⟨u4, rfl⟩, h4, hb4⟩; have H4 := Lib.hid h4; have HB4 := Lib.hid (HB3.out.trans hb4); clear h4 hb4)
          go_roundw
          case rel => exact ⟨k + 1, by omega, by go_num, by rw [HET.out, HEQ.out, HCH.out]; simpa using H4.out, HB4.out⟩
          case measure => simp [intOf]; omega
        · have hq2 : (s[k].toNat : Int) = 92 := by rw [hq]; rfl
          have HCH := Lib.hid hq
          clear hq hle hle2
          go_upto_region 8 with (go_at_call 49; refine (HA.out).mono ?_; rintro e w3 ⟨⟨u3, rfl⟩, h3, hb3⟩; have H3 := Lib.hid h3; have HB3 := Lib.hid (HS.out.2.trans hb3); clear h3 hb3)
          have HA2 := Lib.hid (c_WB H3.out.i 92 92 rfl HLE.out HB3.out.size)
          go_wp2_with (go_at_call 49; refine (HA2.out).mono ?_; rintro e w4 ⟨⟨u4, rfl⟩, h4, hb4⟩; have H4 := Lib.hid h4; have HB4 := Lib.hid (HB3.out.trans hb4); clear h4 hb4)
          go_roundw
          case rel => exact ⟨k + 1, by omega, by go_num, by rw [HET.out, HEQ.out, HCH.out]; simpa using H4.out, HB4.out⟩
          case measure => simp [intOf]; omega
      · have HEQ := Lib.hid (esc_miss hq)
        have HA2 := Lib.hid (c_WB HS.out.1.i s[k] (s[k].toNat : Int) rfl (by omega) hz)
        have q1 : ¬ (s[k].toNat : Int) = 34 := fun e => hq (.inl (UInt8.toNat_inj.1 (by have : s[k].toNat = 34 := (by omega); rw [this]; rfl)))
        have q2 : ¬ (s[k].toNat : Int) = 92 := fun e => hq (.inr (UInt8.toNat_inj.1 (by have : s[k].toNat = 92 := (by omega); rw [this]; rfl)))
        have nb1 : ((s[k].toNat : Int) == 34) = false := beq_eq_false_iff_ne.2 q1
        have nb2 : ((s[k].toNat : Int) == 92) = false := beq_eq_false_iff_ne.2 q2
        clear hq hle
        go_wp2_with (go_at_call 49; refine (HA2.out).mono ?_; rintro e w4 ⟨⟨u4, rfl⟩, h4, hb4⟩; have H4 := Lib.hid h4; have HB4 := Lib.hid (HS.out.2.trans hb4); clear h4 hb4)
        go_roundw
        case rel => exact ⟨k + 1, by omega, by go_num, by rw [HET.out, HEQ.out]; simpa using H4.out, HB4.out⟩
        case measure => simp [intOf]; omega
    · obtain rfl : k = s.size := by omega
      have HA2 := Lib.hid (c_WB HS.out.1.i 34 34 rfl (by omega) hz)
      have HF : Hid ((34 :: (s.data.toList.take s.size).flatMap esc) ++ [34] = quo s.data.toList) := by
        unfold Hid quo
        rw [List.take_of_length_le (by simp)]; rfl
      clear hle
      go_upto_region 11 with (go_at_call 49; refine (HA2.out).mono ?_; rintro e w4 ⟨⟨u4, rfl⟩, h4, hb4⟩; have H4 := Lib.hid h4; have HB4 := Lib.hid (HS.out.2.trans hb4); clear h4 hb4)
      have HST := Lib.hid (Tryd.Builder_String_any w.heap.size b _ w4 H4.out.i HB4.out.size)
      rw [HF.out] at HST
      go_wp2_with (go_at_call 48; refine (HST.out).mono ?_; rintro e w5 ⟨rfl, hb5⟩; have HB5 := Lib.hid (HB4.out.trans hb5); clear hb5)
      go_ret
      exact ⟨rfl, HB5.out⟩
end Go.Proofs.YtmhejppfjngbhaaDoor
