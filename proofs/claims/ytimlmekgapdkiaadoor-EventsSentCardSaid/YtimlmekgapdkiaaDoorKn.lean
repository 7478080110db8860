/- ears: the document sends: the stops of its way -/
import Derived.Test.YtimlmekgapdkiaaDoorKo
namespace Go.Proofs.YtimlmekgapdkiaaDoor
set_option linter.unusedVariables false
set_option linter.unusedSimpArgs false
open Go.RowKit Go.Cas

def stc (x : StV) : List Value := [.int .i64 (x.n : Int), .int .i64 x.p, .bool x.d]
theorem stops_len (S : List StV) : (S.flatMap stc).length = S.length * 3 := by
  induction S with
  | nil => rfl
  | cons a l ih => rw [List.flatMap_cons, List.length_append, ih]; simp [stc]; omega
theorem one_stc (S : List StV) : ∀ u ∈ S.flatMap stc, u.oneCell' = true := fun u hu => by
  obtain ⟨x, _, hx⟩ := List.mem_flatMap.1 hu
  simp [stc] at hx
  rcases hx with rfl | rfl | rfl <;> rfl
def dnS (p : Nat) : StV := ⟨p, 1, true⟩
def upS (p : Nat) : StV := ⟨p, 3, false⟩
theorem inf_St : (Tryd.prog.info? 127).map (fun i => (i.zero, i.size, i.bytes)) = some (some (.agg #[.int .i64 0, .int .i64 0, .bool false]), 3, 24) := by kernel_rfl
/-- the document's sending in memory: ears and calls -/
structure RW (tE te tc : TypeId) (B B0 E : Nat) (vl vg vc : Value) (Le : List EarV) (st : SnS) (w wr : World) : Prop where
  ea : EA tE te B E vl vg Le st.G wr
  oc : wr.ownsRow B0 tc 3 vc st.C.length (st.C.flatMap callc)
  kept : Kept w wr (fun k => vg.ownBlock = some k)
theorem RW.below {tE te tc : TypeId} {B B0 E : Nat} {vl vg vc : Value} {Le : List EarV} {st : SnS} {w wr w' : World} (h : RW tE te tc B B0 E vl vg vc Le st w wr) (hb : Below wr.heap.size wr w') : RW tE te tc B B0 E vl vg vc Le st w w' :=
  ⟨h.ea.below hb, own_keep h.oc (fun k hk => hb.block k (own_lt h.oc hk).2), h.kept.then_ (Kept.of_below hb (fun _ => False)) (fun _ _ e => e.elim)⟩
theorem inf_rCall : (Tryd.prog.info? 129).map (fun i => (i.zero, i.size, i.bytes)) = some (some (.agg #[.int .i64 0, .int .i64 0, .int .i64 0]), 3, 24) := by kernel_rfl
section
variable {tE te tc : TypeId} {B B0 E : Nat} {vl vg vc : Value} {Le : List EarV} {st st' : SnS} {w wr w' : World}
theorem RW.like (h : RW tE te tc B B0 E vl vg vc Le st w wr) (h1 : st'.G = st.G) (h2 : st'.C = st.C) : RW tE te tc B B0 E vl vg vc Le st' w wr :=
  ⟨by rw [h1]; exact h.ea, by rw [h2]; exact h.oc, h.kept⟩
theorem RW.push {k id m g cap : Nat} {ph : Int} (h : RW tE te tc B B0 E vl vg vc Le st w wr) (hm : m = st.C.length) (hp : PU wr B0 tc 3 vc m (st.C.flatMap callc) [.int .i64 (k : Int), .int .i64 (id : Int), .int .i64 ph] g cap w') (hE : ∀ j, exE E vl vg j → j < B0) (hw : w.heap.size ≤ B0) :
    RW tE te tc B B0 E vl vg (.slice (some ⟨g, 0, none⟩) (m + 1) cap) Le { st with C := st.C ++ [⟨k, id, ph⟩] } w w' := by
  subst hm
  refine ⟨h.ea.keep fun j hj => hp.kept.block j (h.ea.fb hj).2 (fun e => ?_), ?_, h.kept.then_ hp.kept fun j hj e => ?_⟩
  · have := hE j hj; have := (own_lt h.oc e).1; omega
  · have := hp.own
    simpa [callc] using this
  · have := (own_lt h.oc e).1; omega
theorem RW.push6 {k id m g cap bz N B1 : Nat} {ph : Int} {wa : World} {tz ts : TypeId} {cs : Array Value} {v : Value} {xs : List Value} (h : RW tE te tc B B0 E vl vg vc Le st w wr) (hm : m = st.C.length) (hb : Below wr.heap.size wr wa) (hp : PU wa B0 tc 3 vc m (st.C.flatMap callc) [.int .i64 (k : Int), .int .i64 (id : Int), .int .i64 ph] g cap w') (hE : ∀ j, exE E vl vg j → j < B0) (hw : w.heap.size ≤ B0)
    (hz : Bk wr bz tz cs) (hzu : ∀ q, vc.ownBlock = some q → bz ≠ q) (hs : wr.ownsRow B1 ts 3 v N xs) (hsd : ∀ q, v.ownBlock = some q → q < B0) :
    RW tE te tc B B0 E vl vg (.slice (some ⟨g, 0, none⟩) (m + 1) cap) Le { st with C := st.C ++ [⟨k, id, ph⟩] } w w' ∧ Bk w' bz tz cs ∧ w'.ownsRow B1 ts 3 v N xs ∧ wr.heap.size ≤ w'.heap.size := by
  refine ⟨(h.below hb).push hm hp hE hw, (hz.below hb hz.lt).grown hp.grown (fun e => hzu _ e.symm rfl), ?_, Nat.le_trans hb.size hp.grown.size⟩
  refine own_keep (own_keep hs (fun q hq => hb.block q (own_lt hs hq).2)) (fun q hq => hp.kept.block q (Nat.lt_of_lt_of_le (own_lt hs hq).2 hb.size) (fun e => ?_))
  have h1 := (own_lt h.oc e).1
  have h2 := hsd q hq
  omega
theorem RW.gone {n cg gg k : Nat} (h : RW tE te tc B B0 E vl (.slice (some ⟨gg, 0, none⟩) n cg) vc Le st w wr) (hE : ∀ j, exE E vl (.slice (some ⟨gg, 0, none⟩) n cg) j → j < B0) :
    RW tE te tc B B0 E vl (.slice (some ⟨gg, 0, none⟩) n cg) vc Le { st with G := st.G.set k true } w (wr.setCell ⟨gg, k, none⟩ (.bool true)) := by
  have hk : ∀ j, j ≠ gg → (wr.setCell ⟨gg, k, none⟩ (.bool true)).heap[j]? = wr.heap[j]? := fun j hj => Below.heap_setCell wr ⟨gg, k, none⟩ _ j hj
  have hEg : E ≠ gg := fun e => h.ea.ng (by rw [e]; rfl)
  refine ⟨⟨(hk E hEg).trans h.ea.root, own_keep h.ea.ol (fun j hj => hk j (fun e => h.ea.sep j hj (by rw [e]; rfl))), ?_, by simp [h.ea.gl], h.ea.hE, h.ea.nl, h.ea.ng, h.ea.sep⟩, own_keep h.oc (fun j hj => hk j (fun e => ?_)), h.kept.set_ gg k (fun _ => rfl) _⟩
  · rw [List.map_set]
    exact own_setN h.ea.og k (.bool true)
  · have := hE gg (.inr (.inr rfl)); have := (own_lt h.oc hj).1; omega
end
theorem HCS6 {w : World} {B N cw gs j : Nat} {S : List StV} {x : StV} (h : w.ownsRow B 127 3 (.slice (some ⟨gs, 0, none⟩) N cw) N (S.flatMap stc)) (hx : S[j]? = some x) : w.cell? ⟨gs, j * 3, none⟩ = some (.int .i64 (x.n : Int)) ∧ w.cell? ⟨gs, j * 3 + 1, none⟩ = some (.int .i64 x.p) := by
  have hcx : ∀ f, f < 3 → ∀ u, (stc x)[f]? = some u → w.cell? ⟨gs, j * 3 + f, none⟩ = some u := fun f hf u hu => by
    have := h.cells (g := gs) rfl (j * 3 + f) u (by rw [flat_get stc 3 (fun _ => rfl) S j f x hx hf]; exact hu)
    rw [add_none, Nat.zero_add] at this
    exact this
  exact ⟨hcx 0 (by omega) _ rfl, hcx 1 (by omega) _ rfl⟩
theorem drop_cons {α : Type} {l : List α} {j : Nat} {x : α} (h : l[j]? = some x) : l.drop j = x :: l.drop (j + 1) := by
  obtain ⟨hj, e⟩ := List.getElem?_eq_some_iff.1 h
  rw [← e]; exact List.drop_eq_getElem_cons hj
def ppOf (S : List StV) (j : Nat) : Int := match j with
  | 0 => 0
  | j + 1 => (S[j]?.map StV.p).getD 0
theorem ppOf_next {S : List StV} {j : Nat} {x : StV} (h : S[j]? = some x) : ppOf S (j + 1) = x.p := by
  show (S[j]?.map StV.p).getD 0 = x.p
  rw [h]; rfl
set_option maxRecDepth 100000 in
theorem c_rSendNo {w : World} {B R L cap E : Nat} {τ : Nat → Nat} {M : List NV} {T : List Nod} {z : Int} (h : RT B R L cap 0 (.slice none 0 0) [] τ M w) (hM : M.map NV.x = T) (hT : T.length ≤ 400) (hz : z < 0 ∨ (T.length : Int) ≤ z) (nm : ByteArray) (r : Bool) :
    Calls Tryd.prog 31 #[.pointer (some ⟨E, 0, none⟩), rAg L M.length cap, .int .i64 z, .string nm, .bool r] w fun e w' => e = .returned (.tuple #[.slice none 0 0, .bool true]) ∧ Below w.heap.size w w' := by
  have hmv := h.move
  obtain ⟨w0, hw0⟩ : ∃ w0, w0 = w.alloc (.cells #[.slice (some ⟨L, 0, none⟩) M.length cap, .slice none 0 0] 36) := ⟨_, rfl⟩
  rw [← hw0] at hmv
  have HH := Lib.hid (c_rHasNo (n := 0) ⟨L, cap, _, _, M, hmv, hM⟩ z hz hT)
  have hb0 : Below w.heap.size w w0 := by rw [hw0]; exact bl_alloc (Below.refl _ _) _
  have HB0 := Lib.hid hb0
  have HW0 := Lib.hid hw0
  obtain ⟨m0, hm0⟩ : ∃ m0, m0 = M.length := ⟨_, rfl⟩
  rw [← hm0] at HW0 ⊢
  clear h hM hT hz hmv hw0 hb0 hm0
  go_enter Tryd.func31, Tryd.ntmps31
  go_upto_region 1 with fail
  rw [← HW0.out]
  go_wp2_with (go_at_call 73; refine (HH.out).mono ?_; rintro e w' ⟨rfl, rfl⟩)
  go_ret2
  exact ⟨rfl, HB0.out⟩
set_option maxRecDepth 100000 in
set_option maxHeartbeats 16000000 in
theorem c_rSend {w : World} {B R L cap BE E i : Nat} {τ : Nat → Nat} {M : List NV} {T : List Nod} {d : Nat → Nat} {l : List Nat} {vl vg : Value} {Le : List EarV} {G : List Bool} (h : RT B R L cap 0 (.slice none 0 0) [] τ M w) (hM : M.map NV.x = T) (hW : WF T d) (hT : T.length ≤ 400) (hi : i < T.length) (hl : Go.Cas.Way T i l) (hll : l.length ≤ 900)
    (hE : EA 58 60 BE E vl vg Le G w) (hL : Le.length ≤ 200) (nm : ByteArray) (rises : Bool) :
    Calls Tryd.prog 31 #[.pointer (some ⟨E, 0, none⟩), rAg L M.length cap, .int .i64 (i : Int), .string nm, .bool rises] w (SdRet 129 58 60 BE E vl vg Le (runR Le nm (stopsR l.dropLast i rises) 0 (-1) (sn0 G)) w) := by
  have hmv := h.move
  obtain ⟨w0, hw0⟩ : ∃ w0, w0 = w.alloc (.cells #[.slice (some ⟨L, 0, none⟩) M.length cap, .slice none 0 0] 36) := ⟨_, rfl⟩
  rw [← hw0] at hmv
  have HH := Lib.hid (c_rHas (n := 0) ⟨L, cap, _, _, M, hmv, hM⟩ i hi hT)
  have hb0 : Below w.heap.size w w0 := by rw [hw0]; exact bl_alloc (Below.refl _ _) _
  have HB0 := Lib.hid hb0
  have HW0 := Lib.hid hw0
  have HW := Lib.hid hW
  have HLL := Lib.hid hll
  have HWY := Lib.hid hl
  obtain ⟨n, hn⟩ : ∃ n, n = Le.length := ⟨_, rfl⟩
  have HLN := Lib.hid hn
  have hol := hE.ol
  have hog := hE.og
  rw [← hn] at hol hog hL
  obtain ⟨_, Al, cl, rfl, _, _⟩ := RdS.of_own hol
  obtain ⟨_, Ag, cg, rfl, _, _⟩ := RdS.of_own hog
  have HL2 := Lib.hid hL
  have HEA := Lib.hid hE
  clear hn hol hog hL
  have HC0 : Hid (Clm T l [] (i : Int)) := .inr ⟨i, l, rfl, hi, hl, by simp⟩
  obtain ⟨bx, hbx⟩ : ∃ bx, bx = w.heap.size := ⟨_, rfl⟩
  obtain ⟨m0, hm0⟩ : ∃ m0, m0 = M.length := ⟨_, rfl⟩
  have hlM : M.length = T.length := by rw [← hM]; simp
  have HF : Hid (∀ W', Below w0.heap.size w0 W' → W'.cell? ⟨bx, 0, none⟩ = some (.slice (some ⟨L, 0, none⟩) m0 cap) ∧ bx < W'.heap.size ∧ L < W'.heap.size ∧ ∀ k, k < T.length → W'.cell? ⟨L, k * 6 + 4, none⟩ = some (.int .i64 (ndA T k).pa)) := fun W' hb => by
    have hr := hmv.below hb
    rw [hbx, hm0]
    refine ⟨hr.heads.1, hr.ltR, hr.ltL, fun k hk => ?_⟩
    obtain ⟨y, hy, hyx⟩ := nv_get hM (ndA_get hk)
    rw [← hyx]
    exact (hr.cell hy).2.2.1
  have HMT : Hid (m0 = T.length) := by unfold Hid; rw [hm0, hlM]
  rw [← hm0] at HW0 ⊢
  have hmi : (i : Int) < (m0 : Int) := by have := HMT.out; omega
  have hm4 : m0 ≤ 400 := by have := HMT.out; omega
  obtain ⟨f0, f1, f2, f3⟩ := HF.out w0 (Below.refl _ _)
  have f4 := f3 i hi
  obtain ⟨pi, hpi⟩ : ∃ pi, pi = (ndA T i).pa := ⟨_, rfl⟩
  rw [← hpi] at f4
  have HC1 : Hid (Clm T l [i] pi) := by rw [hpi]; exact (Clm.up HW.out HC0.out).2.2.1
  have HBS := Lib.hid hbx
  have HI := Lib.hid hi
  have HPI := Lib.hid hpi
  clear h hM hW hT hi hl hll hE hmv hw0 hb0 hbx hm0 hlM f3 hpi
  rw [← HBS.out] at HH
  go_enter Tryd.func31, Tryd.ntmps31
  go_upto_region 1 with fail
  rw [← HW0.out, ← HBS.out]
  go_wp2_with (go_at_call 73; refine (HH.out).mono ?_; rintro e w' ⟨rfl, rfl⟩)
  go_loopw [13, 14] (fun v c wr => ∃ (a : Int) (acc : List Nat), c = .int .i64 a ∧ acc.length + 1 ≤ l.length ∧ Hid (Clm T l (i :: acc) a) ∧ Hid (wr.ownsRow w0.heap.size 127 3 v acc.length ((acc.reverse.map dnS).flatMap stc)) ∧ Hid (Below w0.heap.size w0 wr)) (fun _ c _ => wm d (intOf c))
  case atStart => exact ⟨pi, [], rfl, by have := (Clm.up HW.out HC0.out).2.1; simpa using this, HC1.out, World.ownsRow_nil _ _ _ _, Below.refl _ _⟩
  case round =>
    obtain ⟨a, acc, rfl, hal, HR, HO, HB⟩ := hrel
    by_cases ha : a < 0
    · have ha2 : ¬ 0 ≤ a := by omega
      have HE := HR.out.done ha
      have hlr : l = l.dropLast ++ [i] := by
        have h1 := HWY.out.last
        rw [← h1]; exact (List.dropLast_concat_getLast HWY.out.ne).symm
      obtain ⟨t, ht⟩ : ∃ t, t = l.dropLast := ⟨_, rfl⟩
      have HTD := Lib.hid ht
      rw [← ht] at hlr
      have hac : acc = t.reverse := by
        rw [hlr] at HE
        simpa using HE
      have hlt : l.length = t.length + 1 := by rw [hlr]; simp
      have HLT := Lib.hid hlt
      subst hac
      have htl : t.length ≤ 900 := by have := HLL.out; omega
      rw [List.reverse_reverse, List.length_reverse] at HO
      obtain ⟨ma, hma⟩ : ∃ ma, ma = t.length := ⟨_, rfl⟩
      have HMA := Lib.hid hma
      rw [← hma] at HO htl
      have hbz : w0.heap.size ≤ wr.heap.size := HB.out.size
      obtain ⟨TS1, hTS1⟩ : ∃ x, x = (t.map dnS).flatMap stc := ⟨_, rfl⟩
      have HTS1 := Lib.hid hTS1
      rw [← hTS1] at HO
      have HFI : Hid (∀ W', Below w0.heap.size w0 W' → W'.cell? ⟨bx, 0, none⟩ = some (.slice (some ⟨L, 0, none⟩) m0 cap) ∧ bx < W'.heap.size ∧ L < W'.heap.size ∧ W'.cell? ⟨L, i * 6 + 4, none⟩ = some (.int .i64 pi)) := fun W' hb => by
        obtain ⟨g1, g2, g3, g4⟩ := HF.out W' hb
        exact ⟨g1, g2, g3, by rw [HPI.out]; exact g4 i HI.out⟩
      clear ha HE hlr ht hlt hma hTS1 hal HR
      go_upto_region 12 with (at_builtin; refine wp_push rfl _ _ 125 rfl w0.heap.size 127 Tryd.underlying125 inf_St rfl (by decide) wr u13 ma TS1 [.int .i64 (i : Int), .int .i64 2, .bool true] rfl rfl rfl HO.out rfl (by simp [Value.oneCell']) (by omega) (by omega) hbz ?_; intro v5 w5 hpush; have HP5 := Lib.hid hpush; have HB5 : Hid (Below w0.heap.size w0 w5) := hpush.below HB.out (Nat.le_refl _) hbz; have hbz5 : w0.heap.size ≤ w5.heap.size := HB5.out.size; clear hpush)
      go_upto_region 13 with (at_builtin; refine wp_push rfl _ _ 125 rfl w0.heap.size 127 Tryd.underlying125 inf_St rfl (by decide) w5 v5 (ma + 1) (TS1 ++ [.int .i64 (i : Int), .int .i64 2, .bool true]) [.int .i64 (i : Int), .int .i64 2, .bool false] rfl rfl rfl HP5.out.own rfl (by simp [Value.oneCell']) (by omega) (by omega) hbz5 ?_; intro v6 w6 hpush; have HP6 := Lib.hid hpush; have HB6 : Hid (Below w0.heap.size w0 w6) := hpush.below HB5.out (Nat.le_refl _) hbz5; clear hpush)
      obtain ⟨g1, g2, g3, g4⟩ := HFI.out w6 HB6.out
      have HS0 : Hid (w6.ownsRow w0.heap.size 127 3 v6 (ma + 1 + 1) ((t.map dnS ++ [(⟨i, 2, true⟩ : StV), ⟨i, 2, false⟩]).flatMap stc)) := by
        have := HP6.out.own
        rw [HTS1.out] at this
        unfold Hid
        simpa [stc] using this
      clear HP5 HP6 HB5 HO hbz hbz5
      go_upto_block 2 with fail
      go_cut [13, 16] (fun v13 _ wx => Hid (wx.ownsRow w0.heap.size 127 3 v13 (stopsR t i rises).length ((stopsR t i rises).flatMap stc)) ∧ Hid (Below w0.heap.size w0 wx))
      case first =>
        as_aux_lemma =>
          obtain ⟨NS, hNS⟩ : ∃ x, x = t.map dnS ++ [(⟨i, 2, true⟩ : StV), ⟨i, 2, false⟩] := ⟨_, rfl⟩
          have HNS := Lib.hid hNS
          rw [← hNS] at HS0
          clear hNS g1 g2 g3 g4
          cases rises
          case false =>
            have hst : stopsR t i false = NS := by rw [HNS.out]; unfold stopsR; simp [dnS]; try rfl
            have hsl : NS.length = ma + 1 + 1 := by rw [HNS.out, HMA.out]; simp
            have HST := Lib.hid hst
            have HSL := Lib.hid hsl
            clear hst hsl
            go_wp2_with fail
            go_loopw [13, 16] (fun v c wr => c = .int .i64 pi ∧ v = v6 ∧ wr = w6) (fun _ _ _ => 0)
            case atStart => exact ⟨rfl, rfl, rfl⟩
            case round =>
              obtain ⟨rfl, rfl, rfl⟩ := hrel
              by_cases hp0 : 0 ≤ pi
              · go_wp2_with fail
                go_meet
                exact ⟨by rw [HST.out, HSL.out]; exact HS0.out, HB6.out⟩
              · go_wp2_with fail
                go_meet
                exact ⟨by rw [HST.out, HSL.out]; exact HS0.out, HB6.out⟩
          case true =>
            go_wp2_with fail
            go_loopw [13, 16] (fun v c wr => ∃ (a : Int) (acc : List Nat), c = .int .i64 a ∧ acc.length + 1 ≤ l.length ∧ Hid (Clm T l (i :: acc) a) ∧ Hid (wr.ownsRow w0.heap.size 127 3 v (ma + 1 + 1 + acc.length) ((NS ++ acc.map upS).flatMap stc)) ∧ Hid (Below w0.heap.size w0 wr)) (fun _ c _ => wm d (intOf c))
            case atStart => exact ⟨pi, [], rfl, by have := HLT.out; simp; omega, HC1.out, by unfold Hid; rw [List.map_nil, List.append_nil]; exact HS0.out, HB6.out⟩
            case round =>
              obtain ⟨a, acc, rfl, hal, HR, HO, HB⟩ := hrel
              by_cases ha : a < 0
              · have ha2 : ¬ 0 ≤ a := by omega
                have HE := HR.out.done ha
                have hac : acc = t.reverse := by
                  have hlr : l = t ++ [i] := by
                    have h1 := HWY.out.last
                    rw [HTD.out, ← h1]; exact (List.dropLast_concat_getLast HWY.out.ne).symm
                  rw [hlr] at HE
                  simpa using HE
                subst hac
                have hst : stopsR t i true = NS ++ t.reverse.map upS := by rw [HNS.out]; unfold stopsR; simp [dnS, upS]; try rfl
                have hsl : (stopsR t i true).length = ma + 1 + 1 + t.reverse.length := by rw [hst, HNS.out, HMA.out]; simp; omega
                have HST := Lib.hid hst
                have HSL := Lib.hid hsl
                clear hst hsl ha HE
                go_wp2_with fail
                go_meet
                exact ⟨by rw [HSL.out, HST.out]; exact HO.out, HB.out⟩
              · obtain ⟨q, rfl, hq⟩ := HR.out.nat ha
                obtain ⟨_, hal2, hup, hms⟩ := Clm.up HW.out HR.out
                have HUP := Lib.hid hup
                have HMS := Lib.hid hms
                have hbz : w0.heap.size ≤ wr.heap.size := HB.out.size
                have hb1 : ma + 1 + 1 + acc.length ≤ 2000 := by have := HLL.out; omega
                have ha3 : 0 ≤ (q : Int) := by omega
                have hqm : (q : Int) < (m0 : Int) := by have := HMT.out; omega
                obtain ⟨qp, hqp⟩ : ∃ qp, qp = (ndA T q).pa := ⟨_, rfl⟩
                have HFQ : Hid (∀ W', Below w0.heap.size w0 W' → W'.cell? ⟨bx, 0, none⟩ = some (.slice (some ⟨L, 0, none⟩) m0 cap) ∧ bx < W'.heap.size ∧ L < W'.heap.size ∧ W'.cell? ⟨L, q * 6 + 4, none⟩ = some (.int .i64 qp)) := fun W' hb => by
                  obtain ⟨g1, g2, g3, g4⟩ := HF.out W' hb
                  exact ⟨g1, g2, g3, by rw [hqp]; exact g4 q hq⟩
                rw [← hqp] at HUP HMS
                obtain ⟨mb, hmb⟩ : ∃ mb, mb = ma + 1 + 1 + acc.length := ⟨_, rfl⟩
                have HMB := Lib.hid hmb
                rw [← hmb] at hb1 HO
                clear ha hq hup hms hqp hmb
                go_upto_region 15 with (at_builtin; refine wp_push rfl _ _ 125 rfl w0.heap.size 127 Tryd.underlying125 inf_St rfl (by decide) wr u13 mb ((NS ++ acc.map upS).flatMap stc) [.int .i64 (q : Int), .int .i64 3, .bool false] rfl rfl rfl HO.out rfl (by simp [Value.oneCell']) (by omega) (by omega) hbz ?_; intro v7 w7 hpush; have HP7 := Lib.hid hpush; have HB7 : Hid (Below w0.heap.size w0 w7) := hpush.below HB.out (Nat.le_refl _) hbz; clear hpush)
                obtain ⟨g1, g2, g3, g4⟩ := HFQ.out w7 HB7.out
                go_wp2_with fail
                go_roundw
                case rel =>
                  refine ⟨qp, acc ++ [q], rfl, by simp; simp at hal2; omega, HUP.out, ?_, HB7.out⟩
                  have := HP7.out.own
                  rw [HMB.out] at this
                  unfold Hid
                  simpa [upS, stc, Nat.add_assoc] using this
                case measure => exact HMS.out
      case rest =>
        obtain ⟨hcs, hcb⟩ := hcut
        have HCS := hcs
        have HCB := hcb
        obtain ⟨wd, rfl⟩ : ∃ wd : World, wd = wc := ⟨_, rfl⟩
        obtain ⟨S, hS⟩ : ∃ S, S = stopsR t i rises := ⟨_, rfl⟩
        have HSR := Lib.hid hS
        rw [← hS] at HCS
        obtain ⟨N, hN⟩ : ∃ N, N = S.length := ⟨_, rfl⟩
        have HN := Lib.hid hN
        have hN2 : N ≤ 2000 := by
          rw [hN, hS]
          unfold stopsR
          have := HMA.out
          cases rises <;> simp <;> omega
        rw [← hN] at HCS
        obtain ⟨_, Aw, cw, rfl, _, _⟩ := RdS.of_own HCS.out
        have HBW : Hid (Below w.heap.size w wd) := bl_trans HB0.out HCB.out
        have HRW0 : Hid (RW 58 60 129 BE wd.heap.size E (.slice Al n cl) (.slice Ag n cg) (.slice none 0 0) Le (sn0 G) w wd) := ⟨HEA.out.below HBW.out, World.ownsRow_nil _ _ _ _, Kept.of_below HBW.out _⟩
        have HEX : Hid (∀ q, exE E (.slice Al n cl) (.slice Ag n cg) q → q < wd.heap.size) := fun q hq => Nat.lt_of_lt_of_le (HEA.out.fb hq).2 HBW.out.size
        have HWZ : Hid (w.heap.size ≤ wd.heap.size) := HBW.out.size
        clear hcs hcb hS hN g1 g2 g3 g4 HS0 HB6
        go_wp2_with fail
        go_loopw [17, 18, 19, 20] (fun v17 v18 v19 c wr => ∃ (j : Nat) (st : SnS) (last : Int), j ≤ N ∧ c = .int .i64 (j : Int) ∧ v18 = .bool st.free ∧ v19 = .int .i64 last ∧ (0 ≤ last → 1 ≤ j) ∧ Hid (st.now = false) ∧ Hid (runR Le nm S 0 (-1) (sn0 G) = runR Le nm (S.drop j) (ppOf S j) last st) ∧ st.C.length ≤ 200 * j ∧ Hid (RW 58 60 129 BE wd.heap.size E (.slice Al n cl) (.slice Ag n cg) v17 Le st w wr) ∧ Hid (wr.ownsRow w0.heap.size 127 3 (.slice Aw N cw) N (S.flatMap stc)) ∧ Hid (wd.heap.size ≤ wr.heap.size)) (fun _ _ _ c _ => N - (intOf c).toNat)
        case atStart => exact ⟨0, sn0 G, -1, Nat.zero_le _, rfl, rfl, rfl, (fun h => by omega), rfl, rfl, Nat.zero_le _, HRW0.out, HCS.out, Nat.le_refl _⟩
        case round =>
          obtain ⟨j, st, last, hj, rfl, rfl, rfl, hlj, HNW, HRR, hcl, HRW, HWS, HWD0⟩ := hrel
          by_cases hjn : j < N
          case neg =>
            obtain rfl : j = N := by omega
            have hjj : ¬ (j : Int) < (j : Int) := by omega
            have hfin : runR Le nm S 0 (-1) (sn0 G) = st := by
              rw [HRR.out, HN.out, List.drop_length]; rfl
            have HFIN := Lib.hid hfin
            clear hfin
            go_wp2_with fail
            go_ret2
            rw [← HTD.out, ← HSR.out, HFIN.out]
            exact ⟨_, rfl, own_mono HRW.out.oc HWZ.out, HRW.out.ea, HRW.out.kept⟩
          have hji : (j : Int) < (N : Int) := by omega
          obtain ⟨x, hx⟩ : ∃ x, S[j]? = some x := ⟨_, List.getElem?_eq_getElem (by rw [← HN.out]; exact hjn)⟩
          have HX := Lib.hid hx
          obtain ⟨gs, cs', e, hgs, hgsl⟩ := HWS.out.form (by omega)
          injection e with e e2 e3
          subst e e3
          have hcx : ∀ k y, S[k]? = some y → ∀ f, f < 3 → ∀ u, (stc y)[f]? = some u → wr.cell? ⟨gs, k * 3 + f, none⟩ = some u := fun k y hy f hf u hu => by
            have := HWS.out.cells (g := gs) rfl (k * 3 + f) u (by rw [flat_get stc 3 (fun _ => rfl) S k f y hy hf]; exact hu)
            rw [add_none, Nat.zero_add] at this
            exact this
          have HCX := Lib.hid hcx
          have c0 : wr.cell? ⟨gs, j * 3, none⟩ = some (.int .i64 (x.n : Int)) := hcx j x hx 0 (by omega) _ rfl
          have c1 := hcx j x hx 1 (by omega) _ rfl
          clear hcx hx hgs
          go_upto_region 23 with fail
          go_cut [111] (fun v wx => v = .bool (decide (0 ≤ last ∧ ((x.n : Int) ≠ last ∨ x.p ≠ ppOf S j))) ∧ Hid (Below wr.heap.size wr wx))
          case first =>
            as_aux_lemma =>
              by_cases hl0 : 0 ≤ last
              case neg =>
                have hd : decide (0 ≤ last ∧ ((x.n : Int) ≠ last ∨ x.p ≠ ppOf S j)) = false := by simp [hl0]
                have HDD := Lib.hid hd
                have hdl : decide (0 ≤ last) = false := by simpa using hl0
                clear hd
                go_quiet (fail)
                go_wp2_with fail
                go_meet
                exact ⟨by rw [HDD.out], bl_drewN (Below.refl _ _) _⟩
              have hl1 := hlj hl0
              by_cases hnl : (x.n : Int) = last
              case neg =>
                have hd : decide (0 ≤ last ∧ ((x.n : Int) ≠ last ∨ x.p ≠ ppOf S j)) = true := by simp [hl0, hnl]
                have HDD := Lib.hid hd
                have hdl : decide (0 ≤ last) = true := by simpa using hl0
                have hb1 : ((x.n : Int) != last) = true := by rw [bne_iff_ne]; exact hnl
                clear hd
                go_quiet (fail)
                go_wp2_with fail
                go_meet
                exact ⟨by rw [HDD.out], bl_drewN (Below.refl _ _) _⟩
              obtain ⟨p, hp⟩ : ∃ p, j = p + 1 := ⟨j - 1, by omega⟩
              have hpS : p < S.length := by rw [← HN.out]; exact Nat.lt_of_lt_of_le (by rw [hp]; exact Nat.lt_succ_self p) hj
              obtain ⟨y, hy⟩ : ∃ y, S[p]? = some y := ⟨_, List.getElem?_eq_getElem hpS⟩
              have hpp : ppOf S j = y.p := by rw [hp]; unfold ppOf; simp [hy]
              have c2 := HCX.out p y hy 1 (by omega) _ rfl
              have hjp : (j : Int) - 1 = (p : Int) := by omega
              have hpN : (p : Int) < (N : Int) := by omega
              have hp2 : (p : Int) ≤ 2000 := by omega
              have hp0 : 0 ≤ (p : Int) := by omega
              have hw1 : IntKind.i64.wrap ((j : Int) - 1) = (p : Int) := by rw [hjp]; exact IntWalk.i64_in _ (by omega)
              have HPP := Lib.hid hpp
              have hdl : decide (0 ≤ last) = true := by simpa using hl0
              have hb1 : ((x.n : Int) != last) = false := by rw [bne_eq_false_iff_eq]; exact hnl
              clear hp hpS hy hjp hpp
              by_cases hph : x.p = y.p
              case pos =>
                have hd : decide (0 ≤ last ∧ ((x.n : Int) ≠ last ∨ x.p ≠ ppOf S j)) = false := by rw [HPP.out]; simp [hnl, hph]
                have HDD := Lib.hid hd
                have hb2 : (x.p != y.p) = false := by rw [bne_eq_false_iff_eq]; exact hph
                clear hd HPP
                go_quiet (fail)
                go_wp2_with fail
                go_meet
                exact ⟨by rw [HDD.out], bl_drewN (Below.refl _ _) _⟩
              case neg =>
                have hd : decide (0 ≤ last ∧ ((x.n : Int) ≠ last ∨ x.p ≠ ppOf S j)) = true := by rw [HPP.out]; simp [hl0, hph]
                have HDD := Lib.hid hd
                have hb2 : (x.p != y.p) = true := by rw [bne_iff_ne]; exact hph
                clear hd HPP
                go_quiet (fail)
                go_wp2_with fail
                go_meet
                exact ⟨by rw [HDD.out], bl_drewN (Below.refl _ _) _⟩
          case rest =>
            obtain ⟨hv, hbq⟩ := hcut
            obtain ⟨wq, rfl⟩ : ∃ wq : World, wq = wc := ⟨_, rfl⟩
            have HRQ := Lib.hid (HRW.out.below hbq.out)
            have HWQ : Hid (wq.ownsRow w0.heap.size 127 3 (.slice (some ⟨gs, 0, none⟩) N cw) N (S.flatMap stc)) := own_keep HWS.out (fun k hk => hbq.out.block k (own_lt HWS.out hk).2)
            have HDR : Hid (runR Le nm S 0 (-1) (sn0 G) = runR Le nm (x :: S.drop (j + 1)) (ppOf S j) last st) := by
              unfold Hid
              rw [HRR.out, drop_cons HX.out]
            have HPN := Lib.hid (ppOf_next HX.out)
            have HWDQ : Hid (wd.heap.size ≤ wq.heap.size) := Nat.le_trans HWD0.out hbq.out.size
            have HCL := Lib.hid hcl
            clear HRW HWS HRR HCX c0 c1 hbq hlj hcl
            by_cases hbr : 0 ≤ last ∧ ((x.n : Int) ≠ last ∨ x.p ≠ ppOf S j)
            case pos =>
              have HFIN : Hid (runR Le nm S 0 (-1) (sn0 G) = st) := by unfold Hid; rw [HDR.out, runR_cons, if_pos hbr]
              rw [decide_eq_true hbr] at hv
              subst hv
              clear hbr
              go_wp2_with fail
              go_ret2
              rw [← HTD.out, ← HSR.out, HFIN.out]
              exact ⟨_, rfl, own_mono HRQ.out.oc HWZ.out, HRQ.out.ea, HRQ.out.kept⟩
            case neg =>
              have HNB := Lib.hid hbr
              rw [decide_eq_false hbr] at hv
              subst hv
              clear hbr
              go_wp2_with fail
              go_loopw [17, 18, 19, 21] (fun v17 v18 v19 c wi => ∃ (k : Nat) (s' : SnS) (last' : Int), k ≤ n ∧ c = .int .i64 (k : Int) ∧ v18 = .bool s'.free ∧ v19 = .int .i64 last' ∧ Hid (last' = if s'.on then last else (x.n : Int)) ∧ Hid (s' = atN Le nm x.n x.p x.d k st.go) ∧ Hid (s'.now = false) ∧ Hid (RW 58 60 129 BE wd.heap.size E (.slice Al n cl) (.slice Ag n cg) v17 Le s' w wi) ∧ Hid (wi.ownsRow w0.heap.size 127 3 (.slice (some ⟨gs, 0, none⟩) N cw) N (S.flatMap stc)) ∧ Hid (wd.heap.size ≤ wi.heap.size)) (fun _ _ _ c _ => n - (intOf c).toNat)
              case atStart => exact ⟨0, st.go, last, Nat.zero_le _, rfl, rfl, rfl, rfl, rfl, HNW.out, HRQ.out.like rfl rfl, HWQ.out, HWDQ.out⟩
              case round =>
                clear HRQ HWQ
                obtain ⟨k, s', last', hk, rfl, rfl, rfl, HLS, HST, HNW2, HR2, HW2, HWDR⟩ := hrel
                have hn200 : n ≤ 200 := HL2.out
                have e0 := HR2.out.ea.root.cell 0
                have le := HR2.out.ea.root.lt
                by_cases hkn : k < n
                case neg =>
                  have hke : k = n := by omega
                  have hkk : ¬ (k : Int) < (n : Int) := by omega
                  have HAP : Hid (atP Le nm x.n x.p x.d st = s') := by unfold Hid atP; rw [HST.out, hke, HLN.out]
                  have HCN : Hid (s'.C.length ≤ 200 * (j + 1)) := by
                    have h1 := atN_C (L := Le) (name := nm) (id := x.n) (ph := x.p) (dn := x.d) (n := k) (s := st.go)
                    rw [← HST.out] at h1
                    have h2 : st.go.C.length = st.C.length := rfl
                    have h3 := HCL.out
                    have h4 := HL2.out
                    unfold Hid
                    omega
                  clear hke
                  go_wp2_with fail
                  go_roundw
                  case rel =>
                    refine ⟨j + 1, s', last', by omega, by go_num, rfl, rfl, (fun _ => by omega), HNW2.out, ?_, HCN.out, HR2.out, HW2.out, HWDR.out⟩
                    unfold Hid
                    rw [HDR.out, runR_cons, if_neg HNB.out, HAP.out, if_neg (by rw [HNW2.out]; simp), ← HLS.out, HPN.out]
                  case measure => simp [intOf]; omega
                have hki : (k : Int) < (n : Int) := by omega
                obtain ⟨y, hy⟩ : ∃ y, Le[k]? = some y := ⟨_, List.getElem?_eq_getElem (by rw [← HLN.out]; exact hkn)⟩
                obtain ⟨g, hg⟩ : ∃ g, s'.G[k]? = some g := ⟨_, List.getElem?_eq_getElem (by rw [HR2.out.ea.gl, ← HLN.out]; exact hkn)⟩
                have hol := HR2.out.ea.ol
                have hog := HR2.out.ea.og
                rw [← HLN.out] at hol hog
                obtain ⟨gl, cl', e, hgl, hgll⟩ := hol.form (by omega)
                injection e with e e2 e3
                subst e e3
                obtain ⟨gg, cg', e, hgg, hggl⟩ := hog.form (by omega)
                injection e with e e2 e3
                subst e e3
                have HY := Lib.hid hy
                have HG := Lib.hid hg
                have hcy : ∀ f, f < 8 → ∀ u, (earc y)[f]? = some u → wr.cell? ⟨gl, k * 8 + f, none⟩ = some u := fun f hf u hu => by
                  have := hol.cells (g := gl) rfl (k * 8 + f) u (by rw [flat_get earc 8 (fun _ => rfl) Le k f y hy hf]; exact hu)
                  rw [add_none, Nat.zero_add] at this
                  exact this
                obtain ⟨nd, yn, f2, f3, f4, f5, f6, f7⟩ := y
                have x0 := hcy 0 (by omega) _ rfl
                rw [Nat.add_zero] at x0
                have x1 := hcy 1 (by omega) _ rfl; have x2 := hcy 2 (by omega) _ rfl; have x3 := hcy 3 (by omega) _ rfl; have x4 := hcy 4 (by omega) _ rfl; have x5 := hcy 5 (by omega) _ rfl; have x6 := hcy 6 (by omega) _ rfl; have x7 := hcy 7 (by omega) _ rfl
                clear hcy
                go_upto_region 28 with fail
                obtain ⟨bz, hbz⟩ : ∃ bz, bz = wr.heap.size := ⟨_, rfl⟩
                obtain ⟨w1, hw1⟩ : ∃ w1, w1 = wr.alloc (.cells #[.int .i64 nd, .string yn, .bool f2, .bool f3, .bool f4, .bool f5, .bool f6, .bool f7] 60) := ⟨_, rfl⟩
                rw [← hw1, ← hbz]
                have HBZ : Hid (Bk w1 bz 60 #[.int .i64 nd, .string yn, .bool f2, .bool f3, .bool f4, .bool f5, .bool f6, .bool f7]) := by rw [hw1, hbz]; exact bk_new' _ _ _ rfl
                have HBW1 : Hid (Below wr.heap.size wr w1) := by rw [hw1]; exact bl_alloc (Below.refl _ _) _
                have HR3 := Lib.hid (HR2.out.below HBW1.out)
                have HW3 : Hid (w1.ownsRow w0.heap.size 127 3 (.slice (some ⟨gs, 0, none⟩) N cw) N (S.flatMap stc)) := own_keep HW2.out (fun q hq => HBW1.out.block q (own_lt HW2.out hq).2)
                have HUB : Hid (∀ q, u17.ownBlock = some q → bz ≠ q) := fun q hq => by have := (own_lt HR2.out.oc hq).2; omega
                have HGZ : Hid (bz ≠ gg ∧ gs ≠ gg ∧ gs < wd.heap.size) := by
                  have h1 := (HEA.out.fb (k := gg) (.inr (.inr rfl))).2
                  have h2 : w0.heap.size ≤ gs ∧ gs < wd.heap.size := own_lt HCS.out rfl
                  have h3 := HB0.out.size
                  exact ⟨by omega, by omega, h2.2⟩
                clear hw1 hbz hy hg e0 le x0 x1 x2 x3 x4 x5 x6 x7 hol hog
                have hog := HR3.out.ea.og
                rw [← HLN.out] at hog
                have hcg := hog.cells (g := gg) rfl k (.bool g) (by rw [List.getElem?_map, HG.out]; rfl)
                rw [add_none, Nat.zero_add] at hcg
                have hcx : ∀ f, f < 3 → ∀ u, (stc x)[f]? = some u → w1.cell? ⟨gs, j * 3 + f, none⟩ = some u := fun f hf u hu => by
                  have := HW3.out.cells (g := gs) rfl (j * 3 + f) u (by rw [flat_get stc 3 (fun _ => rfl) S j f x HX.out hf]; exact hu)
                  rw [add_none, Nat.zero_add] at this
                  exact this
                have c0 : w1.cell? ⟨gs, j * 3, none⟩ = some (.int .i64 (x.n : Int)) := hcx 0 (by omega) _ rfl
                have c1 := hcx 1 (by omega) _ rfl
                have c2 := hcx 2 (by omega) _ rfl
                have hgs1 : gs < w1.heap.size := (own_lt HW3.out rfl).2
                have e1 := HR3.out.ea.root.cell 1
                have le := HR3.out.ea.root.lt
                have y0 := HBZ.out.cell 0; have y1 := HBZ.out.cell 1; have y2 := HBZ.out.cell 2
                have lz := HBZ.out.lt
                have lgg : gg < w1.heap.size := Nat.lt_of_lt_of_le hggl HBW1.out.size
                clear hog hgg hggl hgl hgll hcx
                go_cut [160] (fun v wx => v = .bool (!(asks ⟨nd, yn, f2, f3, f4, f5, f6, f7⟩ g x.n nm x.d)) ∧ Hid (Below w1.heap.size w1 wx))
                case first =>
                  as_aux_lemma =>
                    by_cases hg1 : g = true
                    · subst hg1
                      have HDD : Hid ((!(asks ⟨nd, yn, f2, f3, f4, f5, f6, f7⟩ true x.n nm x.d)) = true) := by unfold Hid asks; rfl
                      go_quiet (fail)
                      go_wp2_with fail
                      go_meet
                      exact ⟨by rw [HDD.out], bl_drewN (Below.refl _ _) _⟩
                    obtain rfl : g = false := by simpa using hg1
                    by_cases hnd : nd = (x.n : Int)
                    case neg =>
                      have HDD : Hid ((!(asks ⟨nd, yn, f2, f3, f4, f5, f6, f7⟩ false x.n nm x.d)) = true) := by unfold Hid asks; simp [hnd]
                      have hb1 : (nd != (x.n : Int)) = true := by rw [bne_iff_ne]; exact hnd
                      go_quiet (fail)
                      go_wp2_with fail
                      go_meet
                      exact ⟨by rw [HDD.out], bl_drewN (Below.refl _ _) _⟩
                    have hb1 : (nd != (x.n : Int)) = false := by rw [bne_eq_false_iff_eq]; exact hnd
                    by_cases hnm : yn = nm
                    case neg =>
                      have HDD : Hid ((!(asks ⟨nd, yn, f2, f3, f4, f5, f6, f7⟩ false x.n nm x.d)) = true) := by unfold Hid asks; simp [hnm]
                      have hb2 : (yn.toList == nm.toList) = false := by rw [beq_str]; simp [hnm]
                      have hb3 : (yn.toList != nm.toList) = true := by unfold bne; rw [hb2]; rfl
                      go_quiet (fail)
                      go_wp2_with fail
                      go_meet
                      exact ⟨by rw [HDD.out], bl_drewN (Below.refl _ _) _⟩
                    have hb2 : (yn.toList == nm.toList) = true := by rw [beq_str]; simp [hnm]
                    have hb3 : (yn.toList != nm.toList) = false := by unfold bne; rw [hb2]; rfl
                    obtain ⟨dd, hdd⟩ : ∃ dd, dd = x.d := ⟨_, rfl⟩
                    have HDX := Lib.hid hdd
                    have c2' : w1.cell? ⟨gs, j * 3 + 2, none⟩ = some (.bool dd) := by rw [hdd]; exact c2
                    clear c2 hdd
                    have HDD : Hid ((!(asks ⟨nd, yn, f2, f3, f4, f5, f6, f7⟩ false x.n nm x.d)) = !(f2 == dd)) := by unfold Hid asks; rw [HDX.out]; simp [hnd, hnm]
                    clear hnd hnm hg1
                    cases f2 <;> cases dd
                    all_goals
                      go_quiet (fail)
                      go_wp2_with fail
                      go_meet
                      exact ⟨by rw [HDD.out]; rfl, bl_drewN (Below.refl _ _) _⟩
                case rest =>
                  obtain ⟨hv, hbt⟩ := hcut
                  obtain ⟨wt, rfl⟩ : ∃ wt : World, wt = wc := ⟨_, rfl⟩
                  have HRT := Lib.hid (HR3.out.below hbt.out)
                  have HWT : Hid (wt.ownsRow w0.heap.size 127 3 (.slice (some ⟨gs, 0, none⟩) N cw) N (S.flatMap stc)) := own_keep HW3.out (fun q hq => hbt.out.block q (own_lt HW3.out hq).2)
                  have HBZT := Lib.hid (HBZ.out.below hbt.out HBZ.out.lt)
                  have HWDT : Hid (wd.heap.size ≤ wt.heap.size) := Nat.le_trans HWDR.out (Nat.le_trans HBW1.out.size hbt.out.size)
                  clear HR3 HW3 HBZ HR2 HW2 c0 c1 c2 hgs1 e1 le y0 y1 y2 lz lgg hcg hbt
                  by_cases ha : asks ⟨nd, yn, f2, f3, f4, f5, f6, f7⟩ g x.n nm x.d = true
                  case neg =>
                    have haf : asks ⟨nd, yn, f2, f3, f4, f5, f6, f7⟩ g x.n nm x.d = false := by simpa using ha
                    have HS2 : Hid (s' = atN Le nm x.n x.p x.d (k + 1) st.go) := by
                      unfold Hid
                      rw [atN_succ, ← HST.out]
                      exact (hear_miss HNW2.out HY.out (by rw [List.getD_eq_getElem?_getD, HG.out]; exact haf)).symm
                    rw [haf] at hv
                    subst hv
                    clear ha haf
                    go_wp2_with fail
                    go_roundw
                    case rel => exact ⟨k + 1, s', last', by omega, by go_num, rfl, rfl, HLS.out, HS2.out, HNW2.out, HRT.out, HWT.out, HWDT.out⟩
                    case measure => simp [intOf]; omega
                  case pos =>
                    have HS2 : Hid (atN Le nm x.n x.p x.d (k + 1) st.go = hearX ⟨nd, yn, f2, f3, f4, f5, f6, f7⟩ k x.n x.p s') := by
                      unfold Hid
                      rw [atN_succ, ← HST.out]
                      exact hear_hit HNW2.out HY.out (by rw [List.getD_eq_getElem?_getD, HG.out]; exact ha)
                    rw [ha] at hv
                    subst hv
                    clear ha
                    as_aux_lemma =>
                      obtain ⟨m, hm⟩ : ∃ m, m = s'.C.length := ⟨_, rfl⟩
                      have HMC := Lib.hid hm
                      have hmb : m ≤ 1000000 := by
                        have h1 := atN_C (L := Le) (name := nm) (id := x.n) (ph := x.p) (dn := x.d) (n := k) (s := st.go)
                        rw [← HST.out, ← hm] at h1
                        have h2 : st.go.C.length = st.C.length := rfl
                        have h3 := HCL.out
                        omega
                      have HOC : Hid (wt.ownsRow wd.heap.size 129 3 u17 m (s'.C.flatMap callc)) := by unfold Hid; rw [hm]; exact HRT.out.oc
                      have HC12 : Hid (∀ W', Below wt.heap.size wt W' → (W'.cell? ⟨gs, j * 3, none⟩ = some (.int .i64 (x.n : Int)) ∧ W'.cell? ⟨gs, j * 3 + 1, none⟩ = some (.int .i64 x.p))) := fun W' hb => by
                        have hcx : ∀ f, f < 3 → ∀ u, (stc x)[f]? = some u → wt.cell? ⟨gs, j * 3 + f, none⟩ = some u := fun f hf u hu => by
                          have := HWT.out.cells (g := gs) rfl (j * 3 + f) u (by rw [flat_get stc 3 (fun _ => rfl) S j f x HX.out hf]; exact hu)
                          rw [add_none, Nat.zero_add] at this
                          exact this
                        have hl : gs < wt.heap.size := (own_lt HWT.out rfl).2
                        exact ⟨(hb.cell (p := ⟨gs, j * 3, none⟩) hl).trans (hcx 0 (by omega) _ rfl), (hb.cell (p := ⟨gs, j * 3 + 1, none⟩) hl).trans (hcx 1 (by omega) _ rfl)⟩
                      have hwt : wd.heap.size ≤ wt.heap.size := HWDT.out
                      clear hm
                      go_upto_region 29 with fail
                      obtain ⟨c0, c1⟩ := HC12.out wt (Below.refl _ _)
                      go_region_held3 (fun w' => w'.cell? ⟨gs, j * 3, none⟩ = some (.int .i64 (x.n : Int)) ∧ w'.cell? ⟨gs, j * 3 + 1, none⟩ = some (.int .i64 x.p))
                        (first | with_reducible exact HC12.out _ (Below.refl _ _) | with_reducible exact HC12.out _ (bl_drew (Below.refl _ _)) | with_reducible exact HC12.out _ (bl_alloc (bl_drew (Below.refl _ _)) _) | with_reducible exact HC12.out _ (bl_drew (bl_alloc (Below.refl _ _) _)) | with_reducible exact HC6.out)
                        ((refine step_push (by rfl) _ _ _ (by rfl) wd.heap.size 129 Tryd.underlying70 inf_rCall rfl (by decide) u17 m (s'.C.flatMap callc) _ [.int .i64 (k : Int), .int .i64 (x.n : Int), .int .i64 x.p] (by rfl) (by rfl) (by first | with_reducible exact own_drew (HOC.out.alloc _) | exact own_drew (HOC.out.alloc _)) (by first | with_reducible exact Bk.drew (Bk.new _ _ _) | exact Bk.drew (bk_new' _ _ _ rfl)) rfl (by simp [Value.oneCell']) (by omega) (by omega) (by simp; omega) ?_; intro g6 c6 w6 hpu; have HALL := (HRT.out.push6 HMC.out (bl_drew (bl_alloc (Below.refl _ _) _)) hpu HEX.out HWZ.out HBZT.out HUB.out HWT.out (fun q hq => by injection hq with hq; have hq2 : gs = q := hq; rw [← hq2]; exact HGZ.out.2.2)); have HP := Lib.hid HALL.1; have HBZ6 := Lib.hid HALL.2.1; have HW6 := Lib.hid HALL.2.2.1; have HWD6 : Hid (wd.heap.size ≤ w6.heap.size) := Nat.le_trans HWDT.out HALL.2.2.2; have HC6 := Lib.hid (HCS6 HW6.out HX.out); clear hpu HALL))
                      clear HBZT HRT HWT HOC HC12 c0 c1 hwt
                      have z3 := HBZ6.out.cell 3
                      have lz := HBZ6.out.lt
                      go_upto_if 177 with fail
                      go_cut [178] (fun _ wx => Hid ((RW 58 60 129 BE wd.heap.size E (.slice (some ⟨gl, 0, none⟩) n cl) (.slice (some ⟨gg, 0, none⟩) n cg) (.slice (some ⟨g6, 0, none⟩) (m + 1) c6) Le { s' with C := s'.C ++ [⟨k, x.n, x.p⟩], G := if f3 then s'.G.set k true else s'.G } w wx ∧ Bk wx bz 60 #[.int .i64 nd, .string yn, .bool f2, .bool f3, .bool f4, .bool f5, .bool f6, .bool f7]) ∧ wx.ownsRow w0.heap.size 127 3 (.slice (some ⟨gs, 0, none⟩) N cw) N (S.flatMap stc) ∧ wd.heap.size ≤ wx.heap.size))
                      case first =>
                        have e1 := HP.out.ea.root.cell 1
                        have le := HP.out.ea.root.lt
                        cases f3
                        case false =>
                          go_wp2_with fail
                          go_meet
                          exact ⟨⟨HP.out, HBZ6.out⟩, HW6.out, HWD6.out⟩
                        case true =>
                          have hog := HP.out.ea.og
                          rw [← HLN.out] at hog
                          have hcg := hog.cells (g := gg) rfl k (.bool g) (by rw [List.getElem?_map, HG.out]; rfl)
                          rw [add_none, Nat.zero_add] at hcg
                          have fcg := own_free hog k
                          clear hog
                          go_wp2_with fail
                          go_meet
                          exact ⟨⟨HP.out.gone HEX.out, HBZ6.out.far (p := ⟨gg, k, none⟩) HGZ.out.1 _⟩, own_keep HW6.out (fun q hq => Below.heap_setCell _ ⟨gg, k, none⟩ _ q (fun e => by injection hq with hq; have hq2 : gs = q := hq; exact HGZ.out.2.1 (hq2.trans e))), (by simpa using HWD6.out)⟩
                      case rest =>
                        obtain ⟨⟨hp1, hz1⟩, hs1, hd1⟩ := hcut.out
                        have HP1 := Lib.hid hp1
                        have HBZ7 := Lib.hid hz1
                        have HW7 := Lib.hid hs1
                        have HWD7 := Lib.hid hd1
                        clear hcut hp1 hz1 hs1 hd1 HP HBZ6 HW6 HC6 HWD6 z3 lz
                        obtain ⟨w7, rfl⟩ : ∃ w7 : World, w7 = wc := ⟨_, rfl⟩
                        have z4 := HBZ7.out.cell 4
                        have z7 := HBZ7.out.cell 7
                        have lz := HBZ7.out.lt
                        go_upto_region 32 with fail
                        go_cut [190] (fun v wx => v = .bool (f7 && !f4) ∧ wx = w7)
                        case first =>
                          cases f7
                          case false =>
                            go_wp2_with fail
                            go_meet
                            exact ⟨rfl, rfl⟩
                          case true =>
                            go_wp2_with fail
                            go_meet
                            exact ⟨rfl, rfl⟩
                        obtain ⟨rfl, rfl⟩ := hcut
                        obtain ⟨w7, rfl⟩ : ∃ w7 : World, w7 = wc := ⟨_, rfl⟩
                        go_upto_if 190 with fail
                        go_cut [18] (fun v18 wx => v18 = .bool (s'.free && !(f7 && !f4)) ∧ wx = w7)
                        case first =>
                          obtain ⟨bb, hbb⟩ : ∃ bb, bb = (f7 && !f4) := ⟨_, rfl⟩
                          have HBB := Lib.hid hbb
                          rw [← hbb]
                          clear hbb
                          cases bb
                          case false =>
                            go_wp2_with fail
                            go_meet
                            exact ⟨by rw [← HBB.out, Bool.not_false, Bool.and_true], rfl⟩
                          case true =>
                            go_wp2_with fail
                            go_meet
                            exact ⟨by rw [← HBB.out, Bool.not_true, Bool.and_false], rfl⟩
                        case rest =>
                          obtain ⟨rfl, rfl⟩ := hcut
                          obtain ⟨w7, rfl⟩ : ∃ w7 : World, w7 = wc := ⟨_, rfl⟩
                          have HFIN : Hid (RW 58 60 129 BE wd.heap.size E (.slice (some ⟨gl, 0, none⟩) n cl) (.slice (some ⟨gg, 0, none⟩) n cg) (.slice (some ⟨g6, 0, none⟩) (m + 1) c6) Le (hearX ⟨nd, yn, f2, f3, f4, f5, f6, f7⟩ k x.n x.p s') w w7) := HP1.out.like rfl rfl
                          clear HP1 z4 z7 lz
                          go_upto_region 34 with fail
                          have z5 := HBZ7.out.cell 5
                          have z6 := HBZ7.out.cell 6
                          have lz := HBZ7.out.lt
                          cases f6
                          case true =>
                            have HEND : Hid (runR Le nm S 0 (-1) (sn0 G) = hearX ⟨nd, yn, f2, f3, f4, f5, true, f7⟩ k x.n x.p s') := by
                              have h1 : atP Le nm x.n x.p x.d st = hearX ⟨nd, yn, f2, f3, f4, f5, true, f7⟩ k x.n x.p s' := by
                                unfold atP
                                rw [← HS2.out]
                                exact atN_now_le (by rw [← HLN.out]; exact hkn) (by rw [HS2.out]; rfl)
                              unfold Hid
                              rw [HDR.out, runR_cons, if_neg HNB.out, h1]
                              rfl
                            go_wp2_with fail
                            go_ret2
                            rw [← HTD.out, ← HSR.out, HEND.out]
                            refine ⟨_, ?_, own_mono HFIN.out.oc HWZ.out, HFIN.out.ea, HFIN.out.kept⟩
                            rw [show (hearX ⟨nd, yn, f2, f3, f4, f5, true, f7⟩ k x.n x.p s').free = (s'.free && (!f7 || f4)) by simp [hearX]]
                            rfl
                          case false =>
                            cases f5
                            case false =>
                              go_wp2_with fail
                              go_roundw
                              case rel =>
                                refine ⟨k + 1, _, last', by omega, by go_num, rfl, rfl, ?_, HS2.out.symm, rfl, HFIN.out, HW7.out, HWD7.out⟩
                                unfold Hid; rw [HLS.out]; simp [hearX]
                              case measure => simp [intOf]; omega
                            case true =>
                              have hcx : ∀ f, f < 3 → ∀ u, (stc x)[f]? = some u → w7.cell? ⟨gs, j * 3 + f, none⟩ = some u := fun f hf u hu => by
                                have := HW7.out.cells (g := gs) rfl (j * 3 + f) u (by rw [flat_get stc 3 (fun _ => rfl) S j f x HX.out hf]; exact hu)
                                rw [add_none, Nat.zero_add] at this
                                exact this
                              have hl : gs < w7.heap.size := (own_lt HW7.out rfl).2
                              have c0 : w7.cell? ⟨gs, j * 3, none⟩ = some (.int .i64 (x.n : Int)) := hcx 0 (by omega) _ rfl
                              clear hcx
                              go_wp2_with fail
                              go_roundw
                              case rel =>
                                refine ⟨k + 1, _, (x.n : Int), by omega, by go_num, rfl, rfl, ?_, HS2.out.symm, rfl, HFIN.out, HW7.out, HWD7.out⟩
                                unfold Hid; simp [hearX]
                              case measure => simp [intOf]; omega
    · as_aux_lemma =>
        obtain ⟨q, rfl, hq⟩ := HR.out.nat ha
        obtain ⟨_, hal2, hup, hms⟩ := Clm.up HW.out HR.out
        have HUP := Lib.hid hup
        have HMS := Lib.hid hms
        have hbz : w0.heap.size ≤ wr.heap.size := HB.out.size
        have hb1 : acc.length ≤ 1000 := by have := HLL.out; omega
        have ha3 : 0 ≤ (q : Int) := by omega
        have hqm : (q : Int) < (m0 : Int) := by have := HMT.out; omega
        obtain ⟨qp, hqp⟩ : ∃ qp, qp = (ndA T q).pa := ⟨_, rfl⟩
        have HFQ : Hid (∀ W', Below w0.heap.size w0 W' → W'.cell? ⟨bx, 0, none⟩ = some (.slice (some ⟨L, 0, none⟩) m0 cap) ∧ bx < W'.heap.size ∧ L < W'.heap.size ∧ W'.cell? ⟨L, q * 6 + 4, none⟩ = some (.int .i64 qp)) := fun W' hb => by
          obtain ⟨g1, g2, g3, g4⟩ := HF.out W' hb
          exact ⟨g1, g2, g3, by rw [hqp]; exact g4 q hq⟩
        rw [← hqp] at HUP HMS
        obtain ⟨ma, hma⟩ : ∃ ma, ma = acc.length := ⟨_, rfl⟩
        have HMA := Lib.hid hma
        rw [← hma] at hb1 HO
        clear ha hq hup hms hqp hma
        go_upto_region 7 with (first
          | (at_builtin; refine wp_push rfl _ _ 125 rfl w0.heap.size 127 Tryd.underlying125 inf_St rfl (by decide) wr (.slice none 0 0) 0 [] [.int .i64 (q : Int), .int .i64 1, .bool true] rfl rfl rfl (World.ownsRow_nil _ _ _ _) rfl (by simp [Value.oneCell']) (by omega) (by omega) hbz ?_; intro v5 w5 hpush; have HPU := Lib.hid hpush; have HO5 : Hid (w5.ownsRow w0.heap.size 127 3 u13 ma ((acc.reverse.map dnS).flatMap stc)) := hpush.other HO.out (Sep.none_l _); have HB5 : Hid (Below w0.heap.size w0 w5) := hpush.below HB.out (Nat.le_refl _) hbz; have hbz5 : w0.heap.size ≤ w5.heap.size := HB5.out.size; clear hpush)
          | (at_builtin; refine wp_spread rfl _ _ 125 rfl w0.heap.size 127 Tryd.underlying125 inf_St rfl (by decide) v5 1 [.int .i64 (q : Int), .int .i64 1, .bool true] rfl HPU.out.own w5.heap.size u13 ma ((acc.reverse.map dnS).flatMap stc) rfl (RdS.of_own HO5.out) (one_stc _) (by unfold maxLen; omega) (by omega) hbz5 ?_; intro v6 w6 hown6 hgrow6 hat6; have HO6 := Lib.hid hown6; have HB6 : Hid (Below w0.heap.size w0 w6) := HB5.out.grown hgrow6 hbz5 (fun k hk => (own_lt HPU.out.own hk).1); clear hown6 hgrow6 hat6))
        obtain ⟨g1, g2, g3, g4⟩ := HFQ.out w6 HB6.out
        go_wp2_with fail
        go_roundw
        case rel =>
          refine ⟨qp, acc ++ [q], rfl, by simp; omega, HUP.out, ?_, HB6.out⟩
          have := HO6.out
          rw [HMA.out] at this
          unfold Hid
          simpa [dnS, stc, Nat.add_comm] using this
        case measure => exact HMS.out
end Go.Proofs.YtimlmekgapdkiaaDoor
