/- what a change says: coded, made; both trees side by side: one change of both, and what is said of it; the law's step: a change in the program's tree and in the document's -/
import Derived.Test.YtimlmekgapdkiaaGreatDoorCda
import Derived.Test.YtimlmekgapdkiaaGreatDoorTme
import Derived.Test.YtimlmekgapdkiaaGreatDoorWx
namespace Go.Proofs.YtimlmekgapdkiaaGreatDoor
set_option linter.unusedVariables false
set_option linter.unusedSimpArgs false
open Go.RowKit Go.Cas

theorem GE_of_G7 {w : World} {B : Nat} {p : Nat → Addr} (h : G7 w B p) : GE w B p :=
  ⟨h.cell 3 (by decide) (by decide), h.cell 2 (by decide) (by decide), h.cell 4 (by decide) (by decide), h.cell 5 (by decide) (by decide),
   ⟨Nat.lt_of_lt_of_le (gvr_lt 3) h.lt.1, Nat.lt_of_lt_of_le (gvr_lt 2) h.lt.1, Nat.lt_of_lt_of_le (gvr_lt 4) h.lt.1, Nat.lt_of_lt_of_le (gvr_lt 5) h.lt.1⟩, h.lt.2⟩
theorem c_codedE {w : World} {B q : Nat} {p : Nat → Addr} (h : G7 w B p) (hq : 1 ≤ q ∧ q ≤ 7) : Calls Tryz.prog 26 #[errV p q, .int .i64 (q : Int)] w (CdRet true w) := by
  have := c_coded h hq (q : Int)
  rw [beq_self_eq_true] at this
  exact this
theorem c_codedN (w : World) : Calls Tryz.prog 26 #[.nilIface, .int .i64 0] w (CdRet true w) := c_coded_nil w 0
theorem c_madeE {w : World} {B q : Nat} {p : Nat → Addr} (h : G7 w B p) (hq : 1 ≤ q ∧ q ≤ 7) (z : Int) : Calls Tryz.prog 22 #[.int .i64 0, errV p q, .int .i64 z, .int .i64 (q : Int)] w (CdRet true w) := by
  have HC := Lib.hid (c_codedE h hq)
  have hq0 : (0 : Int) < (q : Int) := by omega
  clear h hq
  unfold errV at HC ⊢
  go_enter Tryz.func22, Tryz.ntmps22
  go_wp2_with (go_at_call 26; refine (HC.out).mono ?_; rintro e w1 ⟨rfl, hb⟩; have HB := Lib.hid hb; clear hb)
  go_ret
  exact ⟨rfl, HB.out⟩
theorem c_madeN (z : Int) (w : World) : Calls Tryz.prog 22 #[.int .i64 z, .nilIface, .int .i64 z, .int .i64 0] w (CdRet true w) := by
  have hz : (z == z) = true := by simp
  go_enter Tryz.func22, Tryz.ntmps22
  go_wp2_with fail
  go_ret
  exact ⟨rfl, Below.refl _ _⟩
end Go.Proofs.YtimlmekgapdkiaaGreatDoor
namespace Go.Proofs.YtimlmekgapdkiaaGreatDoor
set_option linter.unusedVariables false
set_option linter.unusedSimpArgs false
open Go.RowKit Go.Cas

/-- the program's tree and the document's: the same nodes, the same trees that were, no block in common -/
def JS (B Rt R : Nat) (T : List Nod) (D : List (Value × List Nod)) (w : World) : Prop := ∃ F G, TS B Rt T D F w ∧ RD B R T (D.map Prod.snd) G w ∧ ∀ k, F k → ¬ G k
/-- not too much of them -/
structure GS (T : List Nod) (D : List (Value × List Nod)) (n : Nat) : Prop where
  gk : Gk T n
  gks : ∀ q ∈ D, Gk q.2 n
  dl : D.length ≤ n
theorem GS.mono {T : List Nod} {D : List (Value × List Nod)} {n m : Nat} (h : GS T D n) (hm : n ≤ m) : GS T D m := ⟨h.gk.mono hm, fun q hq => (h.gks q hq).mono hm, Nat.le_trans h.dl hm⟩
theorem JS.below {B Rt R : Nat} {T : List Nod} {D : List (Value × List Nod)} {w w' : World} (h : JS B Rt R T D w) (hb : Below w.heap.size w w') : JS B Rt R T D w' := by
  obtain ⟨F, G, h1, h2, h3⟩ := h
  exact ⟨F, G, h1.below hb, h2.below hb, h3⟩
/-- what a change leaves -/
def JAft (B Rt R : Nat) (n : Nat) (w' : World) : Prop := ∃ T' D', JS B Rt R T' D' w' ∧ GS T' D' (n + 1)
def GoodV (okP okR : Value) (erP erR : Nat → Value) (vP vR : Value) : Prop := (vP = okP ∧ vR = okR) ∨ ∃ q, 1 ≤ q ∧ q ≤ 7 ∧ vP = erP q ∧ vR = erR q
theorem RD.gb {B R : Nat} {T : List Nod} {D : List (List Nod)} {G : Nat → Prop} {w : World} (h : RD B R T D G w) {k : Nat} (hk : G k) : B ≤ k ∧ k < w.heap.size := by obtain ⟨_, _, _, _, h4, _⟩ := h; exact h4 k hk
/-- a block that a round has made itself -/
def OwnB (w0 w1 : World) (k : Nat) : Prop := ¬ (w0.heap.size ≤ k ∧ k < w1.heap.size)
section
variable {B Rt R n f g : Nat} {p : Nat → Addr} {T : List Nod} {D : List (Value × List Nod)} {ps bs : Array Value} {okP okR : Value} {erP erR : Nat → Value} {w0 w : World}
/-- both calls, one behind the other; blocks made since w0 stay as they are -/
theorem JC.seq (hJ : JC B Rt R p T D n f g ps bs okP okR erP erR) (hs : JS B Rt R T D w0) (hb0 : Below w0.heap.size w0 w) (hG : GE w B p) (hg : GS T D n) :
    ∃ vP vR, GoodV okP okR erP erR vP vR ∧ Calls Tryz.prog f ps w (fun e w2 => e = .returned vP ∧ Hid (Kept w w2 (OwnB w0 w)) ∧ Hid (Below B w w2) ∧ Hid (∀ W, Below w2.heap.size w2 W → Calls Tryz.prog g bs W (fun e w3 => e = .returned vR ∧ Hid (Kept W w3 (OwnB w0 w)) ∧ Hid (Below B W w3) ∧ Hid (JAft B Rt R n w3)))) := by
  obtain ⟨F, G, h01, h02, h3⟩ := hs
  have h1 := h01.below hb0
  have h2 := h02.below hb0
  have oF : ∀ k, F k → OwnB w0 w k := fun k hk e => by have := (h01.fb hk).2; omega
  have oG : ∀ k, G k → OwnB w0 w k := fun k hk e => by have := (h02.gb hk).2; omega
  have hB : B ≤ w.heap.size := hG.lt.2
  rcases hJ with ⟨q, q1, q2, hC, hR⟩ | ⟨T', hk, hC, hR⟩
  · refine ⟨erP q, erR q, .inr ⟨q, q1, q2, rfl, rfl⟩, (hC w F h1 hG).mono fun e w2 ⟨he, hb⟩ => ⟨he, Kept.of_below hb _, hb.mono hB, fun W hW => (hR W G (h2.below (bl_trans hb hW))).mono fun e w3 ⟨he3, hb3⟩ => ⟨he3, Kept.of_below hb3 _, hb3.mono (Nat.le_trans hB (Nat.le_trans hb.size hW.size)), T, D, ⟨F, G, h1.below (bl_trans (bl_trans hb hW) hb3), h2.below (bl_trans (bl_trans hb hW) hb3), h3⟩, hg.mono (by omega)⟩⟩⟩
  · refine ⟨okP, okR, .inl ⟨rfl, rfl⟩, (hC w F h1).mono fun e w2 ⟨he, u, F2, t1, t2, t3⟩ => ⟨he, t3.mono fun k _ hf => oF k hf, t3.below fun k hk => ⟨Nat.lt_of_lt_of_le hk hB, fun hf => by have := (h1.fb hf).1; omega⟩, fun W hW => ?_⟩⟩
    have r2 : RD B R T (D.map Prod.snd) G w2 := h2.keep (fun k hk => t3.block k (h2.gb hk).2 (fun hf => h3 k hf hk)) t3.size
    have d2 : ∀ k, F2 k → ¬ G k := fun k hf hg => h3 k (t2 k (h2.gb hg).2 hf) hg
    refine (hR W G (r2.below hW)).mono fun e w3 ⟨he3, G3, s1, s2, s3⟩ => ⟨he3, s3.mono fun k _ hf => oG k hf, s3.below fun k hk => ⟨Nat.lt_of_lt_of_le hk (Nat.le_trans hB (Nat.le_trans t3.size hW.size)), fun hf => by have := (h2.gb hf).1; omega⟩, T', (u, T) :: D, ⟨F2, G3, ?_, s1, fun k hf hg => ?_⟩, ⟨hk, fun q hq => ?_, by have := hg.dl; simp; omega⟩⟩
    · have tW := t1.below hW
      exact tW.keep (fun k hk => s3.block k (tW.fb hk).2 (d2 k hk)) s3.size
    · have hkW : k < W.heap.size := Nat.lt_of_lt_of_le (t1.fb hf).2 hW.size
      exact d2 k hf (s2 k hkW hg)
    · rcases List.mem_cons.1 hq with rfl | hq
      · exact hg.gk.mono (by omega)
      · exact (hg.gks q hq).mono (by omega)
end
theorem good1 {p : Nat → Addr} {vP vR : Value} (h : GoodV .nilIface (.int .i64 0) (erP1 p) erR1 vP vR) {W : World} {B : Nat} (h7 : G7 W B p) : Calls Tryz.prog 26 #[vP, vR] W (CdRet true W) := by
  rcases h with ⟨rfl, rfl⟩ | ⟨q, q1, q2, rfl, rfl⟩
  · exact c_codedN W
  · exact c_codedE h7 ⟨q1, q2⟩
theorem good2 {p : Nat → Addr} {z : Int} {vP vR : Value} (h : GoodV (.tuple #[.int .i64 z, .nilIface]) (.tuple #[.int .i64 z, .int .i64 0]) (erP2 p) erR2 vP vR) :
    ∃ x1 x2 y1 y2, vP = .tuple #[x1, x2] ∧ vR = .tuple #[y1, y2] ∧ ∀ {W : World} {B : Nat}, G7 W B p → Calls Tryz.prog 22 #[x1, x2, y1, y2] W (CdRet true W) := by
  rcases h with ⟨rfl, rfl⟩ | ⟨q, q1, q2, rfl, rfl⟩
  · exact ⟨_, _, _, _, rfl, rfl, fun _ => c_madeN z _⟩
  · exact ⟨_, _, _, _, rfl, rfl, fun h7 => c_madeE h7 ⟨q1, q2⟩ 0⟩
end Go.Proofs.YtimlmekgapdkiaaGreatDoor
namespace Go.Proofs.YtimlmekgapdkiaaGreatDoor
set_option linter.unusedVariables false
set_option linter.unusedSimpArgs false
open Go.RowKit Go.Cas

def opV (k a b c : Int) (s t : ByteArray) : Value := .agg #[.int .i64 k, .int .i64 a, .int .i64 b, .int .i64 c, .string s, .string t]
/-- a step's answer: true; both trees are the same again -/
def StR (B Rt R n : Nat) (w : World) (e : Ending) (w' : World) : Prop := e = .returned (.bool true) ∧ Hid (JAft B Rt R n w') ∧ Below B w w'
set_option maxRecDepth 100000 in
set_option maxHeartbeats 8000000 in
theorem c_step1 {w : World} {B Rt R n : Nat} {T : List Nod} {D : List (Value × List Nod)} {p : Nat → Addr} (h : JS B Rt R T D w) (hG : G7 w B p) (hg : GS T D n) (hn : n ≤ 1000) (a b c : Int) (s t : ByteArray) (hs : s.size ≤ maxLen) (ht : t.size ≤ maxLen) :
    Calls Tryz.prog 7 #[.pointer (some ⟨Rt, 0, none⟩), .pointer (some ⟨R, 0, none⟩), opV 1 a b c s t] w (StR B Rt R n w) := by
  obtain ⟨w1, hw1⟩ : ∃ w1, w1 = w.alloc (.cells #[.int .i64 1, .int .i64 a, .int .i64 b, .int .i64 c, .string s, .string t] 33) := ⟨_, rfl⟩
  obtain ⟨bo, hbo⟩ : ∃ bo, bo = w.heap.size := ⟨_, rfl⟩
  have hbk : Bk w1 bo 33 #[.int .i64 1, .int .i64 a, .int .i64 b, .int .i64 c, .string s, .string t] := by rw [hw1, hbo]; exact bk_new' _ _ _ rfl
  have hbl : Below w.heap.size w w1 := by rw [hw1]; exact bl_alloc (Below.refl _ _) _
  have hB : B ≤ w.heap.size := hG.lt.2
  have hG1 := hG.below (hbl.mono hB)
  have hD : D.length ≤ 1000000 := by have := hg.dl; omega
  have c0 := hbk.cell 0; have c1 := hbk.cell 1; have c2 := hbk.cell 2; have c3 := hbk.cell 3; have c4 := hbk.cell 4; have c5 := hbk.cell 5
  have lb := hbk.lt
  have HBL := Lib.hid hbl
  have HW1 := Lib.hid hw1
  have HBO := Lib.hid hbo
  have HBK := Lib.hid hbk
  have HB := Lib.hid hB
  have HG1 := Lib.hid hG1
  have HOW : Hid (¬ OwnB w w1 bo) := fun e => e ⟨by rw [hbo]; exact Nat.le_refl _, hbk.lt⟩
  obtain ⟨vP, vR, hgood, hseq⟩ := JC.seq (j_Element (p := p) (Rt := Rt) (R := R) (B := B) hg.gk hn hD s hs) h hbl (GE_of_G7 hG1) hg
  obtain ⟨x1, x2, y1, y2, rfl, rfl, hmade⟩ := good2 hgood
  have HCD : Hid (∀ {W : World} {B : Nat}, G7 W B p → Calls Tryz.prog 22 #[x1, x2, y1, y2] W (CdRet true W)) := fun h7 => hmade h7
  have HSQ := Lib.hid hseq
  clear hseq hgood h hG hg hs ht hn hD hw1 hbo hbk hbl hB hG1 hmade
  unfold opV
  go_enter Tryz.func7, Tryz.ntmps7
  go_upto_region 1 with fail
  rw [← HW1.out, ← HBO.out]
  go_wp2_with (first | (go_at_call 20; refine (HSQ.out).mono ?_; rintro e w2 ⟨rfl, hk2, hb2, hR⟩; have HK2 := hk2; have HB2 := hb2; have HR := hR; have hx := HK2.out.bk HBK.out HOW.out; have HX := Lib.hid hx; have d0 := hx.cell 0; have d1 := hx.cell 1; have d2 := hx.cell 2; have d3 := hx.cell 3; have d4 := hx.cell 4; have d5 := hx.cell 5; have ld := hx.lt; clear hk2 hb2 hR hx) | (go_at_call 21; refine (HR.out _ (Below.refl _ _)).mono ?_; rintro e w3 ⟨rfl, hk3, hb3, ha3⟩; have HB3 := hb3; have HA3 := ha3; have HG3 := Lib.hid (HG1.out.below (HB2.out.trans HB3.out)); clear hk3 hb3 ha3) | (go_at_call 22; refine (HCD.out HG3.out).mono ?_; rintro e w4 ⟨rfl, hb4⟩; have HB4 := Lib.hid hb4; clear hb4))
  go_ret
  obtain ⟨T2, D2, j1, j2⟩ := HA3.out
  exact ⟨rfl, ⟨T2, D2, j1.below HB4.out, j2⟩, ((HBL.out.mono HB.out).trans (HB2.out.trans HB3.out)).trans (HB4.out.mono (HG3.out.lt.2))⟩
set_option maxRecDepth 100000 in
set_option maxHeartbeats 8000000 in
theorem c_step2 {w : World} {B Rt R n : Nat} {T : List Nod} {D : List (Value × List Nod)} {p : Nat → Addr} (h : JS B Rt R T D w) (hG : G7 w B p) (hg : GS T D n) (hn : n ≤ 1000) (a b c : Int) (s t : ByteArray) (hs : s.size ≤ maxLen) (ht : t.size ≤ maxLen) :
    Calls Tryz.prog 7 #[.pointer (some ⟨Rt, 0, none⟩), .pointer (some ⟨R, 0, none⟩), opV 2 a b c s t] w (StR B Rt R n w) := by
  obtain ⟨w1, hw1⟩ : ∃ w1, w1 = w.alloc (.cells #[.int .i64 2, .int .i64 a, .int .i64 b, .int .i64 c, .string s, .string t] 33) := ⟨_, rfl⟩
  obtain ⟨bo, hbo⟩ : ∃ bo, bo = w.heap.size := ⟨_, rfl⟩
  have hbk : Bk w1 bo 33 #[.int .i64 2, .int .i64 a, .int .i64 b, .int .i64 c, .string s, .string t] := by rw [hw1, hbo]; exact bk_new' _ _ _ rfl
  have hbl : Below w.heap.size w w1 := by rw [hw1]; exact bl_alloc (Below.refl _ _) _
  have hB : B ≤ w.heap.size := hG.lt.2
  have hG1 := hG.below (hbl.mono hB)
  have hD : D.length ≤ 1000000 := by have := hg.dl; omega
  have c0 := hbk.cell 0; have c1 := hbk.cell 1; have c2 := hbk.cell 2; have c3 := hbk.cell 3; have c4 := hbk.cell 4; have c5 := hbk.cell 5
  have lb := hbk.lt
  have HBL := Lib.hid hbl
  have HW1 := Lib.hid hw1
  have HBO := Lib.hid hbo
  have HBK := Lib.hid hbk
  have HB := Lib.hid hB
  have HG1 := Lib.hid hG1
  have HOW : Hid (¬ OwnB w w1 bo) := fun e => e ⟨by rw [hbo]; exact Nat.le_refl _, hbk.lt⟩
  obtain ⟨vP, vR, hgood, hseq⟩ := JC.seq (j_Text (p := p) (Rt := Rt) (R := R) (B := B) hg.gk hn hD s hs) h hbl (GE_of_G7 hG1) hg
  obtain ⟨x1, x2, y1, y2, rfl, rfl, hmade⟩ := good2 hgood
  have HCD : Hid (∀ {W : World} {B : Nat}, G7 W B p → Calls Tryz.prog 22 #[x1, x2, y1, y2] W (CdRet true W)) := fun h7 => hmade h7
  have HSQ := Lib.hid hseq
  clear hseq hgood h hG hg hs ht hn hD hw1 hbo hbk hbl hB hG1 hmade
  unfold opV
  go_enter Tryz.func7, Tryz.ntmps7
  go_upto_region 1 with fail
  rw [← HW1.out, ← HBO.out]
  go_wp2_with (first | (go_at_call 23; refine (HSQ.out).mono ?_; rintro e w2 ⟨rfl, hk2, hb2, hR⟩; have HK2 := hk2; have HB2 := hb2; have HR := hR; have hx := HK2.out.bk HBK.out HOW.out; have HX := Lib.hid hx; have d0 := hx.cell 0; have d1 := hx.cell 1; have d2 := hx.cell 2; have d3 := hx.cell 3; have d4 := hx.cell 4; have d5 := hx.cell 5; have ld := hx.lt; clear hk2 hb2 hR hx) | (go_at_call 21; refine (HR.out _ (Below.refl _ _)).mono ?_; rintro e w3 ⟨rfl, hk3, hb3, ha3⟩; have HB3 := hb3; have HA3 := ha3; have HG3 := Lib.hid (HG1.out.below (HB2.out.trans HB3.out)); clear hk3 hb3 ha3) | (go_at_call 22; refine (HCD.out HG3.out).mono ?_; rintro e w4 ⟨rfl, hb4⟩; have HB4 := Lib.hid hb4; clear hb4))
  go_ret
  obtain ⟨T2, D2, j1, j2⟩ := HA3.out
  exact ⟨rfl, ⟨T2, D2, j1.below HB4.out, j2⟩, ((HBL.out.mono HB.out).trans (HB2.out.trans HB3.out)).trans (HB4.out.mono (HG3.out.lt.2))⟩
set_option maxRecDepth 100000 in
set_option maxHeartbeats 8000000 in
theorem c_step3 {w : World} {B Rt R n : Nat} {T : List Nod} {D : List (Value × List Nod)} {p : Nat → Addr} (h : JS B Rt R T D w) (hG : G7 w B p) (hg : GS T D n) (hn : n ≤ 1000) (a b c : Int) (s t : ByteArray) (hs : s.size ≤ maxLen) (ht : t.size ≤ maxLen) :
    Calls Tryz.prog 7 #[.pointer (some ⟨Rt, 0, none⟩), .pointer (some ⟨R, 0, none⟩), opV 3 a b c s t] w (StR B Rt R n w) := by
  obtain ⟨w1, hw1⟩ : ∃ w1, w1 = w.alloc (.cells #[.int .i64 3, .int .i64 a, .int .i64 b, .int .i64 c, .string s, .string t] 33) := ⟨_, rfl⟩
  obtain ⟨bo, hbo⟩ : ∃ bo, bo = w.heap.size := ⟨_, rfl⟩
  have hbk : Bk w1 bo 33 #[.int .i64 3, .int .i64 a, .int .i64 b, .int .i64 c, .string s, .string t] := by rw [hw1, hbo]; exact bk_new' _ _ _ rfl
  have hbl : Below w.heap.size w w1 := by rw [hw1]; exact bl_alloc (Below.refl _ _) _
  have hB : B ≤ w.heap.size := hG.lt.2
  have hG1 := hG.below (hbl.mono hB)
  have hD : D.length ≤ 1000000 := by have := hg.dl; omega
  have c0 := hbk.cell 0; have c1 := hbk.cell 1; have c2 := hbk.cell 2; have c3 := hbk.cell 3; have c4 := hbk.cell 4; have c5 := hbk.cell 5
  have lb := hbk.lt
  have HBL := Lib.hid hbl
  have HW1 := Lib.hid hw1
  have HBO := Lib.hid hbo
  have HBK := Lib.hid hbk
  have HB := Lib.hid hB
  have HG1 := Lib.hid hG1
  have HOW : Hid (¬ OwnB w w1 bo) := fun e => e ⟨by rw [hbo]; exact Nat.le_refl _, hbk.lt⟩
  obtain ⟨vP, vR, hgood, hseq⟩ := JC.seq (j_Comment (p := p) (Rt := Rt) (R := R) (B := B) hg.gk hn hD s hs) h hbl (GE_of_G7 hG1) hg
  obtain ⟨x1, x2, y1, y2, rfl, rfl, hmade⟩ := good2 hgood
  have HCD : Hid (∀ {W : World} {B : Nat}, G7 W B p → Calls Tryz.prog 22 #[x1, x2, y1, y2] W (CdRet true W)) := fun h7 => hmade h7
  have HSQ := Lib.hid hseq
  clear hseq hgood h hG hg hs ht hn hD hw1 hbo hbk hbl hB hG1 hmade
  unfold opV
  go_enter Tryz.func7, Tryz.ntmps7
  go_upto_region 1 with fail
  rw [← HW1.out, ← HBO.out]
  go_wp2_with (first | (go_at_call 24; refine (HSQ.out).mono ?_; rintro e w2 ⟨rfl, hk2, hb2, hR⟩; have HK2 := hk2; have HB2 := hb2; have HR := hR; have hx := HK2.out.bk HBK.out HOW.out; have HX := Lib.hid hx; have d0 := hx.cell 0; have d1 := hx.cell 1; have d2 := hx.cell 2; have d3 := hx.cell 3; have d4 := hx.cell 4; have d5 := hx.cell 5; have ld := hx.lt; clear hk2 hb2 hR hx) | (go_at_call 21; refine (HR.out _ (Below.refl _ _)).mono ?_; rintro e w3 ⟨rfl, hk3, hb3, ha3⟩; have HB3 := hb3; have HA3 := ha3; have HG3 := Lib.hid (HG1.out.below (HB2.out.trans HB3.out)); clear hk3 hb3 ha3) | (go_at_call 22; refine (HCD.out HG3.out).mono ?_; rintro e w4 ⟨rfl, hb4⟩; have HB4 := Lib.hid hb4; clear hb4))
  go_ret
  obtain ⟨T2, D2, j1, j2⟩ := HA3.out
  exact ⟨rfl, ⟨T2, D2, j1.below HB4.out, j2⟩, ((HBL.out.mono HB.out).trans (HB2.out.trans HB3.out)).trans (HB4.out.mono (HG3.out.lt.2))⟩
set_option maxRecDepth 100000 in
set_option maxHeartbeats 8000000 in
theorem c_step4 {w : World} {B Rt R n : Nat} {T : List Nod} {D : List (Value × List Nod)} {p : Nat → Addr} (h : JS B Rt R T D w) (hG : G7 w B p) (hg : GS T D n) (hn : n ≤ 1000) (a b c : Int) (s t : ByteArray) (hs : s.size ≤ maxLen) (ht : t.size ≤ maxLen) :
    Calls Tryz.prog 7 #[.pointer (some ⟨Rt, 0, none⟩), .pointer (some ⟨R, 0, none⟩), opV 4 a b c s t] w (StR B Rt R n w) := by
  obtain ⟨w1, hw1⟩ : ∃ w1, w1 = w.alloc (.cells #[.int .i64 4, .int .i64 a, .int .i64 b, .int .i64 c, .string s, .string t] 33) := ⟨_, rfl⟩
  obtain ⟨bo, hbo⟩ : ∃ bo, bo = w.heap.size := ⟨_, rfl⟩
  have hbk : Bk w1 bo 33 #[.int .i64 4, .int .i64 a, .int .i64 b, .int .i64 c, .string s, .string t] := by rw [hw1, hbo]; exact bk_new' _ _ _ rfl
  have hbl : Below w.heap.size w w1 := by rw [hw1]; exact bl_alloc (Below.refl _ _) _
  have hB : B ≤ w.heap.size := hG.lt.2
  have hG1 := hG.below (hbl.mono hB)
  have hD : D.length ≤ 1000000 := by have := hg.dl; omega
  have c0 := hbk.cell 0; have c1 := hbk.cell 1; have c2 := hbk.cell 2; have c3 := hbk.cell 3; have c4 := hbk.cell 4; have c5 := hbk.cell 5
  have lb := hbk.lt
  have HBL := Lib.hid hbl
  have HW1 := Lib.hid hw1
  have HBO := Lib.hid hbo
  have HBK := Lib.hid hbk
  have HB := Lib.hid hB
  have HG1 := Lib.hid hG1
  have HOW : Hid (¬ OwnB w w1 bo) := fun e => e ⟨by rw [hbo]; exact Nat.le_refl _, hbk.lt⟩
  obtain ⟨vP, vR, hgood, hseq⟩ := JC.seq (j_Put (p := p) (Rt := Rt) (R := R) (B := B) hg.gk hn hD a b c) h hbl (GE_of_G7 hG1) hg
  have HCD : Hid (∀ {W : World} {B : Nat}, G7 W B p → Calls Tryz.prog 26 #[vP, vR] W (CdRet true W)) := fun h7 => good1 hgood h7
  have HSQ := Lib.hid hseq
  clear hseq hgood h hG hg hs ht hn hD hw1 hbo hbk hbl hB hG1
  unfold opV
  go_enter Tryz.func7, Tryz.ntmps7
  go_upto_region 1 with fail
  rw [← HW1.out, ← HBO.out]
  go_wp2_with (first | (go_at_call 25; refine (HSQ.out).mono ?_; rintro e w2 ⟨rfl, hk2, hb2, hR⟩; have HK2 := hk2; have HB2 := hb2; have HR := hR; have hx := HK2.out.bk HBK.out HOW.out; have HX := Lib.hid hx; have d0 := hx.cell 0; have d1 := hx.cell 1; have d2 := hx.cell 2; have d3 := hx.cell 3; have d4 := hx.cell 4; have d5 := hx.cell 5; have ld := hx.lt; clear hk2 hb2 hR hx) | (go_at_call 27; refine (HR.out _ (Below.refl _ _)).mono ?_; rintro e w3 ⟨rfl, hk3, hb3, ha3⟩; have HB3 := hb3; have HA3 := ha3; have HG3 := Lib.hid (HG1.out.below (HB2.out.trans HB3.out)); clear hk3 hb3 ha3) | (go_at_call 26; refine (HCD.out HG3.out).mono ?_; rintro e w4 ⟨rfl, hb4⟩; have HB4 := Lib.hid hb4; clear hb4))
  go_ret
  obtain ⟨T2, D2, j1, j2⟩ := HA3.out
  exact ⟨rfl, ⟨T2, D2, j1.below HB4.out, j2⟩, ((HBL.out.mono HB.out).trans (HB2.out.trans HB3.out)).trans (HB4.out.mono (HG3.out.lt.2))⟩
set_option maxRecDepth 100000 in
set_option maxHeartbeats 8000000 in
theorem c_step5 {w : World} {B Rt R n : Nat} {T : List Nod} {D : List (Value × List Nod)} {p : Nat → Addr} (h : JS B Rt R T D w) (hG : G7 w B p) (hg : GS T D n) (hn : n ≤ 1000) (a b c : Int) (s t : ByteArray) (hs : s.size ≤ maxLen) (ht : t.size ≤ maxLen) :
    Calls Tryz.prog 7 #[.pointer (some ⟨Rt, 0, none⟩), .pointer (some ⟨R, 0, none⟩), opV 5 a b c s t] w (StR B Rt R n w) := by
  obtain ⟨w1, hw1⟩ : ∃ w1, w1 = w.alloc (.cells #[.int .i64 5, .int .i64 a, .int .i64 b, .int .i64 c, .string s, .string t] 33) := ⟨_, rfl⟩
  obtain ⟨bo, hbo⟩ : ∃ bo, bo = w.heap.size := ⟨_, rfl⟩
  have hbk : Bk w1 bo 33 #[.int .i64 5, .int .i64 a, .int .i64 b, .int .i64 c, .string s, .string t] := by rw [hw1, hbo]; exact bk_new' _ _ _ rfl
  have hbl : Below w.heap.size w w1 := by rw [hw1]; exact bl_alloc (Below.refl _ _) _
  have hB : B ≤ w.heap.size := hG.lt.2
  have hG1 := hG.below (hbl.mono hB)
  have hD : D.length ≤ 1000000 := by have := hg.dl; omega
  have c0 := hbk.cell 0; have c1 := hbk.cell 1; have c2 := hbk.cell 2; have c3 := hbk.cell 3; have c4 := hbk.cell 4; have c5 := hbk.cell 5
  have lb := hbk.lt
  have HBL := Lib.hid hbl
  have HW1 := Lib.hid hw1
  have HBO := Lib.hid hbo
  have HBK := Lib.hid hbk
  have HB := Lib.hid hB
  have HG1 := Lib.hid hG1
  have HOW : Hid (¬ OwnB w w1 bo) := fun e => e ⟨by rw [hbo]; exact Nat.le_refl _, hbk.lt⟩
  obtain ⟨vP, vR, hgood, hseq⟩ := JC.seq (j_Take (p := p) (Rt := Rt) (R := R) (B := B) hg.gk hn hD a) h hbl (GE_of_G7 hG1) hg
  have HCD : Hid (∀ {W : World} {B : Nat}, G7 W B p → Calls Tryz.prog 26 #[vP, vR] W (CdRet true W)) := fun h7 => good1 hgood h7
  have HSQ := Lib.hid hseq
  clear hseq hgood h hG hg hs ht hn hD hw1 hbo hbk hbl hB hG1
  unfold opV
  go_enter Tryz.func7, Tryz.ntmps7
  go_upto_region 1 with fail
  rw [← HW1.out, ← HBO.out]
  go_wp2_with (first | (go_at_call 28; refine (HSQ.out).mono ?_; rintro e w2 ⟨rfl, hk2, hb2, hR⟩; have HK2 := hk2; have HB2 := hb2; have HR := hR; have hx := HK2.out.bk HBK.out HOW.out; have HX := Lib.hid hx; have d0 := hx.cell 0; have d1 := hx.cell 1; have d2 := hx.cell 2; have d3 := hx.cell 3; have d4 := hx.cell 4; have d5 := hx.cell 5; have ld := hx.lt; clear hk2 hb2 hR hx) | (go_at_call 29; refine (HR.out _ (Below.refl _ _)).mono ?_; rintro e w3 ⟨rfl, hk3, hb3, ha3⟩; have HB3 := hb3; have HA3 := ha3; have HG3 := Lib.hid (HG1.out.below (HB2.out.trans HB3.out)); clear hk3 hb3 ha3) | (go_at_call 26; refine (HCD.out HG3.out).mono ?_; rintro e w4 ⟨rfl, hb4⟩; have HB4 := Lib.hid hb4; clear hb4))
  go_ret
  obtain ⟨T2, D2, j1, j2⟩ := HA3.out
  exact ⟨rfl, ⟨T2, D2, j1.below HB4.out, j2⟩, ((HBL.out.mono HB.out).trans (HB2.out.trans HB3.out)).trans (HB4.out.mono (HG3.out.lt.2))⟩
set_option maxRecDepth 100000 in
set_option maxHeartbeats 8000000 in
theorem c_step6 {w : World} {B Rt R n : Nat} {T : List Nod} {D : List (Value × List Nod)} {p : Nat → Addr} (h : JS B Rt R T D w) (hG : G7 w B p) (hg : GS T D n) (hn : n ≤ 1000) (a b c : Int) (s t : ByteArray) (hs : s.size ≤ maxLen) (ht : t.size ≤ maxLen) :
    Calls Tryz.prog 7 #[.pointer (some ⟨Rt, 0, none⟩), .pointer (some ⟨R, 0, none⟩), opV 6 a b c s t] w (StR B Rt R n w) := by
  obtain ⟨w1, hw1⟩ : ∃ w1, w1 = w.alloc (.cells #[.int .i64 6, .int .i64 a, .int .i64 b, .int .i64 c, .string s, .string t] 33) := ⟨_, rfl⟩
  obtain ⟨bo, hbo⟩ : ∃ bo, bo = w.heap.size := ⟨_, rfl⟩
  have hbk : Bk w1 bo 33 #[.int .i64 6, .int .i64 a, .int .i64 b, .int .i64 c, .string s, .string t] := by rw [hw1, hbo]; exact bk_new' _ _ _ rfl
  have hbl : Below w.heap.size w w1 := by rw [hw1]; exact bl_alloc (Below.refl _ _) _
  have hB : B ≤ w.heap.size := hG.lt.2
  have hG1 := hG.below (hbl.mono hB)
  have hD : D.length ≤ 1000000 := by have := hg.dl; omega
  have c0 := hbk.cell 0; have c1 := hbk.cell 1; have c2 := hbk.cell 2; have c3 := hbk.cell 3; have c4 := hbk.cell 4; have c5 := hbk.cell 5
  have lb := hbk.lt
  have HBL := Lib.hid hbl
  have HW1 := Lib.hid hw1
  have HBO := Lib.hid hbo
  have HBK := Lib.hid hbk
  have HB := Lib.hid hB
  have HG1 := Lib.hid hG1
  have HOW : Hid (¬ OwnB w w1 bo) := fun e => e ⟨by rw [hbo]; exact Nat.le_refl _, hbk.lt⟩
  obtain ⟨vP, vR, hgood, hseq⟩ := JC.seq (j_Set (p := p) (Rt := Rt) (R := R) (B := B) hg.gk hn hD a s t hs ht) h hbl (GE_of_G7 hG1) hg
  have HCD : Hid (∀ {W : World} {B : Nat}, G7 W B p → Calls Tryz.prog 26 #[vP, vR] W (CdRet true W)) := fun h7 => good1 hgood h7
  have HSQ := Lib.hid hseq
  clear hseq hgood h hG hg hs ht hn hD hw1 hbo hbk hbl hB hG1
  unfold opV
  go_enter Tryz.func7, Tryz.ntmps7
  go_upto_region 1 with fail
  rw [← HW1.out, ← HBO.out]
  go_wp2_with (first | (go_at_call 30; refine (HSQ.out).mono ?_; rintro e w2 ⟨rfl, hk2, hb2, hR⟩; have HK2 := hk2; have HB2 := hb2; have HR := hR; have hx := HK2.out.bk HBK.out HOW.out; have HX := Lib.hid hx; have d0 := hx.cell 0; have d1 := hx.cell 1; have d2 := hx.cell 2; have d3 := hx.cell 3; have d4 := hx.cell 4; have d5 := hx.cell 5; have ld := hx.lt; clear hk2 hb2 hR hx) | (go_at_call 31; refine (HR.out _ (Below.refl _ _)).mono ?_; rintro e w3 ⟨rfl, hk3, hb3, ha3⟩; have HB3 := hb3; have HA3 := ha3; have HG3 := Lib.hid (HG1.out.below (HB2.out.trans HB3.out)); clear hk3 hb3 ha3) | (go_at_call 26; refine (HCD.out HG3.out).mono ?_; rintro e w4 ⟨rfl, hb4⟩; have HB4 := Lib.hid hb4; clear hb4))
  go_ret
  obtain ⟨T2, D2, j1, j2⟩ := HA3.out
  exact ⟨rfl, ⟨T2, D2, j1.below HB4.out, j2⟩, ((HBL.out.mono HB.out).trans (HB2.out.trans HB3.out)).trans (HB4.out.mono (HG3.out.lt.2))⟩
set_option maxRecDepth 100000 in
set_option maxHeartbeats 8000000 in
theorem c_step7 {w : World} {B Rt R n : Nat} {T : List Nod} {D : List (Value × List Nod)} {p : Nat → Addr} (h : JS B Rt R T D w) (hG : G7 w B p) (hg : GS T D n) (hn : n ≤ 1000) (a b c : Int) (s t : ByteArray) (hs : s.size ≤ maxLen) (ht : t.size ≤ maxLen) :
    Calls Tryz.prog 7 #[.pointer (some ⟨Rt, 0, none⟩), .pointer (some ⟨R, 0, none⟩), opV 7 a b c s t] w (StR B Rt R n w) := by
  obtain ⟨w1, hw1⟩ : ∃ w1, w1 = w.alloc (.cells #[.int .i64 7, .int .i64 a, .int .i64 b, .int .i64 c, .string s, .string t] 33) := ⟨_, rfl⟩
  obtain ⟨bo, hbo⟩ : ∃ bo, bo = w.heap.size := ⟨_, rfl⟩
  have hbk : Bk w1 bo 33 #[.int .i64 7, .int .i64 a, .int .i64 b, .int .i64 c, .string s, .string t] := by rw [hw1, hbo]; exact bk_new' _ _ _ rfl
  have hbl : Below w.heap.size w w1 := by rw [hw1]; exact bl_alloc (Below.refl _ _) _
  have hB : B ≤ w.heap.size := hG.lt.2
  have hG1 := hG.below (hbl.mono hB)
  have hD : D.length ≤ 1000000 := by have := hg.dl; omega
  have c0 := hbk.cell 0; have c1 := hbk.cell 1; have c2 := hbk.cell 2; have c3 := hbk.cell 3; have c4 := hbk.cell 4; have c5 := hbk.cell 5
  have lb := hbk.lt
  have HBL := Lib.hid hbl
  have HW1 := Lib.hid hw1
  have HBO := Lib.hid hbo
  have HBK := Lib.hid hbk
  have HB := Lib.hid hB
  have HG1 := Lib.hid hG1
  have HOW : Hid (¬ OwnB w w1 bo) := fun e => e ⟨by rw [hbo]; exact Nat.le_refl _, hbk.lt⟩
  obtain ⟨vP, vR, hgood, hseq⟩ := JC.seq (j_Unset (p := p) (Rt := Rt) (R := R) (B := B) hg.gk hn hD a s) h hbl (GE_of_G7 hG1) hg
  have HCD : Hid (∀ {W : World} {B : Nat}, G7 W B p → Calls Tryz.prog 26 #[vP, vR] W (CdRet true W)) := fun h7 => good1 hgood h7
  have HSQ := Lib.hid hseq
  clear hseq hgood h hG hg hs ht hn hD hw1 hbo hbk hbl hB hG1
  unfold opV
  go_enter Tryz.func7, Tryz.ntmps7
  go_upto_region 1 with fail
  rw [← HW1.out, ← HBO.out]
  go_wp2_with (first | (go_at_call 32; refine (HSQ.out).mono ?_; rintro e w2 ⟨rfl, hk2, hb2, hR⟩; have HK2 := hk2; have HB2 := hb2; have HR := hR; have hx := HK2.out.bk HBK.out HOW.out; have HX := Lib.hid hx; have d0 := hx.cell 0; have d1 := hx.cell 1; have d2 := hx.cell 2; have d3 := hx.cell 3; have d4 := hx.cell 4; have d5 := hx.cell 5; have ld := hx.lt; clear hk2 hb2 hR hx) | (go_at_call 31; refine (HR.out _ (Below.refl _ _)).mono ?_; rintro e w3 ⟨rfl, hk3, hb3, ha3⟩; have HB3 := hb3; have HA3 := ha3; have HG3 := Lib.hid (HG1.out.below (HB2.out.trans HB3.out)); clear hk3 hb3 ha3) | (go_at_call 26; refine (HCD.out HG3.out).mono ?_; rintro e w4 ⟨rfl, hb4⟩; have HB4 := Lib.hid hb4; clear hb4))
  go_ret
  obtain ⟨T2, D2, j1, j2⟩ := HA3.out
  exact ⟨rfl, ⟨T2, D2, j1.below HB4.out, j2⟩, ((HBL.out.mono HB.out).trans (HB2.out.trans HB3.out)).trans (HB4.out.mono (HG3.out.lt.2))⟩
set_option maxRecDepth 100000 in
set_option maxHeartbeats 8000000 in
theorem c_step8 {w : World} {B Rt R n : Nat} {T : List Nod} {D : List (Value × List Nod)} {p : Nat → Addr} (h : JS B Rt R T D w) (hG : G7 w B p) (hg : GS T D n) (hn : n ≤ 1000) (a b c : Int) (s t : ByteArray) (hs : s.size ≤ maxLen) (ht : t.size ≤ maxLen) :
    Calls Tryz.prog 7 #[.pointer (some ⟨Rt, 0, none⟩), .pointer (some ⟨R, 0, none⟩), opV 8 a b c s t] w (StR B Rt R n w) := by
  obtain ⟨w1, hw1⟩ : ∃ w1, w1 = w.alloc (.cells #[.int .i64 8, .int .i64 a, .int .i64 b, .int .i64 c, .string s, .string t] 33) := ⟨_, rfl⟩
  obtain ⟨bo, hbo⟩ : ∃ bo, bo = w.heap.size := ⟨_, rfl⟩
  have hbk : Bk w1 bo 33 #[.int .i64 8, .int .i64 a, .int .i64 b, .int .i64 c, .string s, .string t] := by rw [hw1, hbo]; exact bk_new' _ _ _ rfl
  have hbl : Below w.heap.size w w1 := by rw [hw1]; exact bl_alloc (Below.refl _ _) _
  have hB : B ≤ w.heap.size := hG.lt.2
  have hG1 := hG.below (hbl.mono hB)
  have hD : D.length ≤ 1000000 := by have := hg.dl; omega
  have c0 := hbk.cell 0; have c1 := hbk.cell 1; have c2 := hbk.cell 2; have c3 := hbk.cell 3; have c4 := hbk.cell 4; have c5 := hbk.cell 5
  have lb := hbk.lt
  have HBL := Lib.hid hbl
  have HW1 := Lib.hid hw1
  have HBO := Lib.hid hbo
  have HBK := Lib.hid hbk
  have HB := Lib.hid hB
  have HG1 := Lib.hid hG1
  have HOW : Hid (¬ OwnB w w1 bo) := fun e => e ⟨by rw [hbo]; exact Nat.le_refl _, hbk.lt⟩
  obtain ⟨vP, vR, hgood, hseq⟩ := JC.seq (j_Say (p := p) (Rt := Rt) (R := R) (B := B) hg.gk hn hD a s hs) h hbl (GE_of_G7 hG1) hg
  have HCD : Hid (∀ {W : World} {B : Nat}, G7 W B p → Calls Tryz.prog 26 #[vP, vR] W (CdRet true W)) := fun h7 => good1 hgood h7
  have HSQ := Lib.hid hseq
  clear hseq hgood h hG hg hs ht hn hD hw1 hbo hbk hbl hB hG1
  unfold opV
  go_enter Tryz.func7, Tryz.ntmps7
  go_upto_region 1 with fail
  rw [← HW1.out, ← HBO.out]
  go_wp2_with (first | (go_at_call 33; refine (HSQ.out).mono ?_; rintro e w2 ⟨rfl, hk2, hb2, hR⟩; have HK2 := hk2; have HB2 := hb2; have HR := hR; have hx := HK2.out.bk HBK.out HOW.out; have HX := Lib.hid hx; have d0 := hx.cell 0; have d1 := hx.cell 1; have d2 := hx.cell 2; have d3 := hx.cell 3; have d4 := hx.cell 4; have d5 := hx.cell 5; have ld := hx.lt; clear hk2 hb2 hR hx) | (go_at_call 34; refine (HR.out _ (Below.refl _ _)).mono ?_; rintro e w3 ⟨rfl, hk3, hb3, ha3⟩; have HB3 := hb3; have HA3 := ha3; have HG3 := Lib.hid (HG1.out.below (HB2.out.trans HB3.out)); clear hk3 hb3 ha3) | (go_at_call 26; refine (HCD.out HG3.out).mono ?_; rintro e w4 ⟨rfl, hb4⟩; have HB4 := Lib.hid hb4; clear hb4))
  go_ret
  obtain ⟨T2, D2, j1, j2⟩ := HA3.out
  exact ⟨rfl, ⟨T2, D2, j1.below HB4.out, j2⟩, ((HBL.out.mono HB.out).trans (HB2.out.trans HB3.out)).trans (HB4.out.mono (HG3.out.lt.2))⟩
set_option maxRecDepth 100000 in
set_option maxHeartbeats 8000000 in
theorem c_step9 {w : World} {B Rt R n : Nat} {T : List Nod} {D : List (Value × List Nod)} {p : Nat → Addr} (h : JS B Rt R T D w) (hG : G7 w B p) (hg : GS T D n) (hn : n ≤ 1000) (a b c : Int) (s t : ByteArray) (hs : s.size ≤ maxLen) (ht : t.size ≤ maxLen) :
    Calls Tryz.prog 7 #[.pointer (some ⟨Rt, 0, none⟩), .pointer (some ⟨R, 0, none⟩), opV 9 a b c s t] w (StR B Rt R n w) := by
  obtain ⟨w1, hw1⟩ : ∃ w1, w1 = w.alloc (.cells #[.int .i64 9, .int .i64 a, .int .i64 b, .int .i64 c, .string s, .string t] 33) := ⟨_, rfl⟩
  obtain ⟨bo, hbo⟩ : ∃ bo, bo = w.heap.size := ⟨_, rfl⟩
  have hbk : Bk w1 bo 33 #[.int .i64 9, .int .i64 a, .int .i64 b, .int .i64 c, .string s, .string t] := by rw [hw1, hbo]; exact bk_new' _ _ _ rfl
  have hbl : Below w.heap.size w w1 := by rw [hw1]; exact bl_alloc (Below.refl _ _) _
  have hB : B ≤ w.heap.size := hG.lt.2
  have hG1 := hG.below (hbl.mono hB)
  have hD : D.length ≤ 1000000 := by have := hg.dl; omega
  have c0 := hbk.cell 0; have c1 := hbk.cell 1; have c2 := hbk.cell 2; have c3 := hbk.cell 3; have c4 := hbk.cell 4; have c5 := hbk.cell 5
  have lb := hbk.lt
  have HBL := Lib.hid hbl
  have HW1 := Lib.hid hw1
  have HBO := Lib.hid hbo
  have HBK := Lib.hid hbk
  have HB := Lib.hid hB
  have HG1 := Lib.hid hG1
  have HOW : Hid (¬ OwnB w w1 bo) := fun e => e ⟨by rw [hbo]; exact Nat.le_refl _, hbk.lt⟩
  obtain ⟨vP, vR, hgood, hseq⟩ := JC.seq (j_Copy (p := p) (Rt := Rt) (R := R) (B := B) hg.gk hn hD a) h hbl (GE_of_G7 hG1) hg
  obtain ⟨x1, x2, y1, y2, rfl, rfl, hmade⟩ := good2 hgood
  have HCD : Hid (∀ {W : World} {B : Nat}, G7 W B p → Calls Tryz.prog 22 #[x1, x2, y1, y2] W (CdRet true W)) := fun h7 => hmade h7
  have HSQ := Lib.hid hseq
  clear hseq hgood h hG hg hs ht hn hD hw1 hbo hbk hbl hB hG1 hmade
  unfold opV
  go_enter Tryz.func7, Tryz.ntmps7
  go_upto_region 1 with fail
  rw [← HW1.out, ← HBO.out]
  go_wp2_with (first | (go_at_call 35; refine (HSQ.out).mono ?_; rintro e w2 ⟨rfl, hk2, hb2, hR⟩; have HK2 := hk2; have HB2 := hb2; have HR := hR; have hx := HK2.out.bk HBK.out HOW.out; have HX := Lib.hid hx; have d0 := hx.cell 0; have d1 := hx.cell 1; have d2 := hx.cell 2; have d3 := hx.cell 3; have d4 := hx.cell 4; have d5 := hx.cell 5; have ld := hx.lt; clear hk2 hb2 hR hx) | (go_at_call 36; refine (HR.out _ (Below.refl _ _)).mono ?_; rintro e w3 ⟨rfl, hk3, hb3, ha3⟩; have HB3 := hb3; have HA3 := ha3; have HG3 := Lib.hid (HG1.out.below (HB2.out.trans HB3.out)); clear hk3 hb3 ha3) | (go_at_call 22; refine (HCD.out HG3.out).mono ?_; rintro e w4 ⟨rfl, hb4⟩; have HB4 := Lib.hid hb4; clear hb4))
  go_ret
  obtain ⟨T2, D2, j1, j2⟩ := HA3.out
  exact ⟨rfl, ⟨T2, D2, j1.below HB4.out, j2⟩, ((HBL.out.mono HB.out).trans (HB2.out.trans HB3.out)).trans (HB4.out.mono (HG3.out.lt.2))⟩
set_option maxRecDepth 100000 in
set_option maxHeartbeats 8000000 in
theorem c_step10 {w : World} {B Rt R n : Nat} {T : List Nod} {D : List (Value × List Nod)} {p : Nat → Addr} (h : JS B Rt R T D w) (hG : G7 w B p) (hg : GS T D n) (hn : n ≤ 1000) (a b c : Int) (s t : ByteArray) (hs : s.size ≤ maxLen) (ht : t.size ≤ maxLen) :
    Calls Tryz.prog 7 #[.pointer (some ⟨Rt, 0, none⟩), .pointer (some ⟨R, 0, none⟩), opV 10 a b c s t] w (StR B Rt R n w) := by
  obtain ⟨w1, hw1⟩ : ∃ w1, w1 = w.alloc (.cells #[.int .i64 10, .int .i64 a, .int .i64 b, .int .i64 c, .string s, .string t] 33) := ⟨_, rfl⟩
  obtain ⟨bo, hbo⟩ : ∃ bo, bo = w.heap.size := ⟨_, rfl⟩
  have hbk : Bk w1 bo 33 #[.int .i64 10, .int .i64 a, .int .i64 b, .int .i64 c, .string s, .string t] := by rw [hw1, hbo]; exact bk_new' _ _ _ rfl
  have hbl : Below w.heap.size w w1 := by rw [hw1]; exact bl_alloc (Below.refl _ _) _
  have hB : B ≤ w.heap.size := hG.lt.2
  have hG1 := hG.below (hbl.mono hB)
  have hD : D.length ≤ 1000000 := by have := hg.dl; omega
  have c0 := hbk.cell 0; have c1 := hbk.cell 1; have c2 := hbk.cell 2; have c3 := hbk.cell 3; have c4 := hbk.cell 4; have c5 := hbk.cell 5
  have lb := hbk.lt
  have HBL := Lib.hid hbl
  have HW1 := Lib.hid hw1
  have HBO := Lib.hid hbo
  have HBK := Lib.hid hbk
  have HB := Lib.hid hB
  have HG1 := Lib.hid hG1
  have HOW : Hid (¬ OwnB w w1 bo) := fun e => e ⟨by rw [hbo]; exact Nat.le_refl _, hbk.lt⟩
  obtain ⟨F, G, h01, h02, h3⟩ := h
  have h1 := h01.below hbl
  have h2 := h02.below hbl
  have HC := Lib.hid (c_Settle h1)
  have HF0 := Lib.hid h1
  have HR2 : Hid (∀ W, Kept w1 W F → RD B R T (D.map Prod.snd) G W) := fun W hk => h2.keep (fun k e => hk.block k (h2.gb e).2 (fun f => h3 k f e)) hk.size
  have HD3 := Lib.hid h3
  have HGB : Hid (∀ k, F k → B ≤ k) := fun k e => (h1.fb e).1
  have HGS := Lib.hid hg
  clear h01 h02 h1 h2 h3 hG hg hs ht hn hD hw1 hbo hbk hbl hB hG1
  unfold opV
  go_enter Tryz.func7, Tryz.ntmps7
  go_upto_region 1 with fail
  rw [← HW1.out, ← HBO.out]
  go_upto_region 35 with (go_at_call 37; refine (HC.out).mono ?_; rintro e w2 ⟨⟨u, rfl⟩, hts, hk⟩; have HTS := Lib.hid hts; have HK := Lib.hid hk; clear hts hk)
  have hrd := HR2.out _ HK.out
  have HRD := Lib.hid hrd
  obtain ⟨τ, xs, ⟨L, cap, tv, M, r1, _⟩, _⟩ := hrd
  obtain ⟨g0, g1, g2, g3⟩ := r1.heads
  have hr := r1.ltR
  clear r1
  go_wp2_with fail
  go_ret
  obtain ⟨s1, s2⟩ := HRD.out.settle
  have t3 : TS B Rt T [] F (w2.setCell ⟨R, 1, none⟩ (.slice none 0 0)) := HTS.out.keep (fun k e => s2.block k (HTS.out.fb e).2 (HD3.out k e)) s2.size
  have hBw := HB.out
  have b2 : Below B w1 w2 := HK.out.below fun k hk => ⟨Nat.lt_of_lt_of_le hk (Nat.le_trans hBw HBL.out.size), fun e => by have := HGB.out k e; omega⟩
  have b3 : Below B w2 (w2.setCell ⟨R, 1, none⟩ (.slice none 0 0)) := s2.below fun k hk => ⟨Nat.lt_of_lt_of_le hk (Nat.le_trans (Nat.le_trans hBw HBL.out.size) HK.out.size), fun e => by have := (HRD.out.gb e).1; omega⟩
  exact ⟨rfl, ⟨T, [], ⟨F, G, t3, s1, HD3.out⟩, ⟨HGS.out.gk.mono (by omega), fun q hq => (by cases hq), Nat.zero_le _⟩⟩, (HBL.out.mono hBw).trans (b2.trans b3)⟩
set_option maxRecDepth 100000 in
set_option maxHeartbeats 8000000 in
theorem c_step0 {w : World} {B Rt R n : Nat} {T : List Nod} {D : List (Value × List Nod)} {p : Nat → Addr} (h : JS B Rt R T D w) (hG : G7 w B p) (hg : GS T D n) (hn : n ≤ 1000) (k a b c : Int) (s t : ByteArray) (hs : s.size ≤ maxLen) (ht : t.size ≤ maxLen) (hk : ∀ q : Int, 1 ≤ q → q ≤ 10 → (k == q) = false) :
    Calls Tryz.prog 7 #[.pointer (some ⟨Rt, 0, none⟩), .pointer (some ⟨R, 0, none⟩), opV k a b c s t] w (StR B Rt R n w) := by
  obtain ⟨w1, hw1⟩ : ∃ w1, w1 = w.alloc (.cells #[.int .i64 k, .int .i64 a, .int .i64 b, .int .i64 c, .string s, .string t] 33) := ⟨_, rfl⟩
  obtain ⟨bo, hbo⟩ : ∃ bo, bo = w.heap.size := ⟨_, rfl⟩
  have hbk : Bk w1 bo 33 #[.int .i64 k, .int .i64 a, .int .i64 b, .int .i64 c, .string s, .string t] := by rw [hw1, hbo]; exact bk_new' _ _ _ rfl
  have hbl : Below w.heap.size w w1 := by rw [hw1]; exact bl_alloc (Below.refl _ _) _
  have hB : B ≤ w.heap.size := hG.lt.2
  have hG1 := hG.below (hbl.mono hB)
  have hD : D.length ≤ 1000000 := by have := hg.dl; omega
  have c0 := hbk.cell 0; have c1 := hbk.cell 1; have c2 := hbk.cell 2; have c3 := hbk.cell 3; have c4 := hbk.cell 4; have c5 := hbk.cell 5
  have lb := hbk.lt
  have HBL := Lib.hid hbl
  have HW1 := Lib.hid hw1
  have HBO := Lib.hid hbo
  have HBK := Lib.hid hbk
  have HB := Lib.hid hB
  have HG1 := Lib.hid hG1
  have HOW : Hid (¬ OwnB w w1 bo) := fun e => e ⟨by rw [hbo]; exact Nat.le_refl _, hbk.lt⟩
  have bs1 := hk 1 (by decide) (by decide); have bs2 := hk 2 (by decide) (by decide); have bs3 := hk 3 (by decide) (by decide); have bs4 := hk 4 (by decide) (by decide); have bs5 := hk 5 (by decide) (by decide)
  have bs6 := hk 6 (by decide) (by decide); have bs7 := hk 7 (by decide) (by decide); have bs8 := hk 8 (by decide) (by decide); have bs9 := hk 9 (by decide) (by decide); have bs10 := hk 10 (by decide) (by decide)
  obtain ⟨F, G, h01, h02, h3⟩ := h
  have h1 := h01.below hbl
  have h2 := h02.below hbl
  have HGS := Lib.hid hg
  have HD3 := Lib.hid h3
  cases D with
  | nil =>
    have HC := Lib.hid (c_Undo_none h1)
    have HR := Lib.hid (c_rUndo_none h2)
    have H1 := Lib.hid h1
    have H2 := Lib.hid h2
    clear h01 h02 h1 h2 h3 hG hg hs ht hn hD hw1 hbo hbk hbl hB hG1 hk
    unfold opV
    go_enter Tryz.func7, Tryz.ntmps7
    go_upto_region 1 with fail
    rw [← HW1.out, ← HBO.out]
    go_wp2_with (first
      | (go_at_call 38; refine (HC.out).mono ?_; rintro e w' ⟨rfl, rfl⟩)
      | (go_at_call 39; refine (HR.out).mono ?_; rintro e w' ⟨rfl, rfl⟩))
    go_ret
    exact ⟨rfl, ⟨T, [], ⟨F, G, H1.out, H2.out, HD3.out⟩, HGS.out.mono (by omega)⟩, HBL.out.mono HB.out⟩
  | cons q D2 =>
    obtain ⟨u, T'⟩ := q
    have HC := Lib.hid (c_Undo h1 (by simp at hD; omega))
    have HR : Hid (∀ W, Kept w1 W F → Calls Tryz.prog 39 #[.pointer (some ⟨R, 0, none⟩)] W (UnR B R T' (D2.map Prod.snd) G W)) := fun W hk2 => c_rUndo (h2.keep (fun k e => hk2.block k (h2.gb e).2 (fun f => h3 k f e)) hk2.size) (by rw [List.length_map]; simp at hD; omega)
    have HGB : Hid (∀ k, F k → B ≤ k) := fun k e => (h1.fb e).1
    have HGG : Hid (∀ k, G k → B ≤ k ∧ k < w1.heap.size) := fun k e => h2.gb e
    clear h01 h02 h1 h2 h3 hG hg hs ht hn hD hw1 hbo hbk hbl hB hG1 hk
    unfold opV
    go_enter Tryz.func7, Tryz.ntmps7
    go_upto_region 1 with fail
    rw [← HW1.out, ← HBO.out]
    go_wp2_with (first
      | (go_at_call 38; refine (HC.out).mono ?_; rintro e w2 ⟨rfl, hts, hk2⟩; have HTS := Lib.hid hts; have HK := Lib.hid hk2; clear hts hk2)
      | (go_at_call 39; refine (HR.out _ HK.out).mono ?_; rintro e w3 ⟨rfl, hrd⟩; have HRD := Lib.hid hrd; clear hrd))
    go_ret
    obtain ⟨G3, s1, s2, s3⟩ := HRD.out
    have t3 : TS B Rt T' D2 F w3 := HTS.out.keep (fun k e => s3.block k (HTS.out.fb e).2 (HD3.out k e)) s3.size
    have hBw := HB.out
    have b2 : Below B w1 w2 := HK.out.below fun k hk => ⟨Nat.lt_of_lt_of_le hk (Nat.le_trans hBw HBL.out.size), fun e => by have := HGB.out k e; omega⟩
    have b3 : Below B w2 w3 := s3.below fun k hk => ⟨Nat.lt_of_lt_of_le hk (Nat.le_trans (Nat.le_trans hBw HBL.out.size) HK.out.size), fun e => by have := (HGG.out k e).1; omega⟩
    have hgs := HGS.out
    exact ⟨rfl, ⟨T', D2, ⟨F, G3, t3, s1, fun k e e2 => HD3.out k e (s2 k (HTS.out.fb e).2 e2)⟩, ⟨(hgs.gks (u, T') (by simp)).mono (by omega), fun q hq => (hgs.gks q (by simp [hq])).mono (by omega), by have := hgs.dl; simp at this; omega⟩⟩, (HBL.out.mono hBw).trans (b2.trans b3)⟩
theorem c_step {w : World} {B Rt R n : Nat} {T : List Nod} {D : List (Value × List Nod)} {p : Nat → Addr} (h : JS B Rt R T D w) (hG : G7 w B p) (hg : GS T D n) (hn : n ≤ 1000) (k a b c : Int) (s t : ByteArray) (hs : s.size ≤ maxLen) (ht : t.size ≤ maxLen) :
    Calls Tryz.prog 7 #[.pointer (some ⟨Rt, 0, none⟩), .pointer (some ⟨R, 0, none⟩), opV k a b c s t] w (StR B Rt R n w) := by
  by_cases e1 : k = 1
  · subst e1; exact c_step1 h hG hg hn a b c s t hs ht
  by_cases e2 : k = 2
  · subst e2; exact c_step2 h hG hg hn a b c s t hs ht
  by_cases e3 : k = 3
  · subst e3; exact c_step3 h hG hg hn a b c s t hs ht
  by_cases e4 : k = 4
  · subst e4; exact c_step4 h hG hg hn a b c s t hs ht
  by_cases e5 : k = 5
  · subst e5; exact c_step5 h hG hg hn a b c s t hs ht
  by_cases e6 : k = 6
  · subst e6; exact c_step6 h hG hg hn a b c s t hs ht
  by_cases e7 : k = 7
  · subst e7; exact c_step7 h hG hg hn a b c s t hs ht
  by_cases e8 : k = 8
  · subst e8; exact c_step8 h hG hg hn a b c s t hs ht
  by_cases e9 : k = 9
  · subst e9; exact c_step9 h hG hg hn a b c s t hs ht
  by_cases e10 : k = 10
  · subst e10; exact c_step10 h hG hg hn a b c s t hs ht
  exact c_step0 h hG hg hn k a b c s t hs ht (fun q h1 h2 => by rw [beq_eq_false_iff_ne]; omega)
end Go.Proofs.YtimlmekgapdkiaaGreatDoor
