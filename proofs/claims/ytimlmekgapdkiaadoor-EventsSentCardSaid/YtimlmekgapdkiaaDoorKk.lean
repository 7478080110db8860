/- ears: along the way -/
import Derived.Test.YtimlmekgapdkiaaDoorKg
import Derived.RangeFuncFrom
namespace Go.Proofs.YtimlmekgapdkiaaDoor
set_option linter.unusedVariables false
set_option linter.unusedSimpArgs false
open Go.RowKit Go.Cas Go.Shelf
attribute [local go_sem] Oper.semAt_some

theorem own_cells {w : World} {base n size : Nat} {e : TypeId} {v : Value} {xs : List Value} (ho : w.ownsRow base e size v n xs) {k : Nat} (hk : v.ownBlock = some k) : ∃ o : Obj, w.heap[k]? = some o ∧ o.isCells = true := by
  rcases ho.2 with ⟨rfl, _⟩ | ⟨g, cap, cur, rfl, hb, hgg, rest⟩
  · cases hk
  · injection hk with hk
    have hk : g = k := hk
    subst hk
    exact ⟨_, hgg, rfl⟩
section
variable {B B0 E Sb : Nat} {name : ByteArray} {vl vg vc vc' v2 : Value} {L : List EarV} {s s' : SnS} {w w' wr W : World}
/-- the blocks of a sending -/
def exA (E : Nat) (vl vg vc : Value) (Sb k : Nat) : Prop := exE E vl vg k ∨ k = Sb ∨ vc.ownBlock = some k
theorem SM.cells (h : SM B B0 E Sb name vl vg vc L s w) {k : Nat} (hk : exA E vl vg vc Sb k) : ∃ o : Obj, w.heap[k]? = some o ∧ o.isCells = true := by
  rcases hk with (rfl | hk | hk) | rfl | hk
  · exact ⟨_, h.ea.root, rfl⟩
  · exact own_cells h.ea.ol hk
  · exact own_cells h.ea.og hk
  · exact ⟨_, h.sb, rfl⟩
  · exact own_cells h.oc hk
theorem SM.keep (h : SM B B0 E Sb name vl vg vc L s w) (hk : ∀ k, exA E vl vg vc Sb k → w'.heap[k]? = w.heap[k]?) : SM B B0 E Sb name vl vg vc L s w' :=
  ⟨h.ea.keep fun k hx => hk k (.inl hx), (hk Sb (.inr (.inl rfl))).trans h.sb, own_keep h.oc (fun k hx => hk k (.inr (.inr hx))), h.ns, h.nc, h.b0⟩
theorem AtW.trans (h : AtW B B0 E Sb name vl vg vc vc' L s w wr) (h2 : AtW B B0 E Sb name vl vg vc' v2 L s' wr w') : AtW B B0 E Sb name vl vg vc v2 L s' w w' :=
  ⟨h2.sm, fun k hk e => h.sub k hk (h2.sub k (Nat.lt_of_lt_of_le hk h.kept.size) e), h.kept.then_ h2.kept fun k hk e => by
    rcases e with e | e | e
    · exact .inl e
    · exact .inr (.inl e)
    · exact .inr (.inr (h.sub k hk e))⟩
theorem AtW.refl (h : SM B B0 E Sb name vl vg vc L s w) : AtW B B0 E Sb name vl vg vc vc L s w w := ⟨h, fun _ _ h => h, Kept.refl _ _⟩
/-- a block that is no cells has turned, and new ones have come -/
theorem AtW.turn {row : Option Nat} (h : AtW B B0 E Sb name vl vg vc vc' L s w wr) (hg : wr.grownBy w' row) (hr : ∀ r, row = some r → w.heap.size ≤ r ∧ ∃ o : Obj, wr.heap[r]? = some o ∧ o.isCells = false) : AtW B B0 E Sb name vl vg vc vc' L s w w' := by
  refine ⟨h.sm.keep fun k hk => ?_, h.sub, h.kept.then_ (Kept.grown hg (fun k => row = some k) (fun _ e => e)) fun k hk e => ?_⟩
  · obtain ⟨o, ho, hc⟩ := h.sm.cells hk
    refine hg.block k (Array.getElem?_eq_some_iff.1 ho).1 (fun e => ?_)
    obtain ⟨_, o2, ho2, hc2⟩ := hr k e.symm
    rw [ho] at ho2; injection ho2 with ho2; subst ho2; rw [hc] at hc2; cases hc2
  · have := (hr k e).1; omega
/-- what is no cells lies as it lay -/
theorem AtW.others (h0 : SM B B0 E Sb name vl vg vc L s wr) (h : AtW B B0 E Sb name vl vg vc vc' L s' wr w') : KeepsOthers wr w' := by
  refine ⟨h.kept.size, fun k o ho hc => ?_⟩
  rw [h.kept.block k (Array.getElem?_eq_some_iff.1 ho).1 (fun e => ?_)]
  · exact ho
  · obtain ⟨o2, ho2, hc2⟩ := h0.cells (k := k) (by
      rcases e with e | e | e
      · exact .inl (.inr (.inr e))
      · exact .inr (.inl e)
      · exact .inr (.inr e))
    rw [ho] at ho2; injection ho2 with ho2; subst ho2; rw [hc] at hc2; cases hc2
end
theorem runG_snoc (L : List EarV) (name : ByteArray) (ph : Int) (dn : Bool) (p : Nat) : ∀ (l : List Nat) (s : SnS), s.on = true → (runG L name ph dn l s).on = true → runG L name ph dn (l ++ [p]) s = atP L name p ph dn (runG L name ph dn l s) := by
  intro l
  induction l with
  | nil => intro s _ _; rw [List.nil_append, runG_cons]; show (if _ then atP L name p ph dn s else _) = atP L name p ph dn s; split <;> rfl
  | cons q l ih =>
    intro s hs h
    rw [runG_cons] at h ⊢
    rw [List.cons_append, runG_cons]
    by_cases e : (atP L name q ph dn s).on = true
    · rw [if_pos e] at h ⊢
      rw [if_pos e]
      exact ih _ e h
    · rw [if_neg e] at h; exact absurd h e
theorem runG_stop (L : List EarV) (name : ByteArray) (ph : Int) (dn : Bool) (l2 : List Nat) : ∀ (l : List Nat) (s : SnS), l ≠ [] → (runG L name ph dn l s).on = false → runG L name ph dn (l ++ l2) s = runG L name ph dn l s := by
  intro l
  induction l with
  | nil => intro s h _; exact absurd rfl h
  | cons q l ih =>
    intro s _ h
    rw [runG_cons] at h ⊢
    rw [List.cons_append, runG_cons]
    by_cases e : (atP L name q ph dn s).on = true
    · rw [if_pos e] at h
      rw [if_pos e, if_pos e]
      cases l with
      | nil => rw [show runG L name ph dn [] (atP L name q ph dn s) = atP L name q ph dn s from rfl, e] at h; cases h
      | cons a l => exact ih _ (by simp) h
    · rw [if_neg e, if_neg e]
theorem runG_C (L : List EarV) (name : ByteArray) (ph : Int) (dn : Bool) : ∀ (l : List Nat) (s : SnS), (runG L name ph dn l s).C.length ≤ s.C.length + l.length * L.length := by
  intro l
  induction l with
  | nil => intro s; show s.C.length ≤ s.C.length + [].length * L.length; omega
  | cons q l ih =>
    intro s
    rw [runG_cons, List.length_cons, Nat.succ_mul]
    have h1 := atP_C (L := L) (name := name) (id := q) (ph := ph) (dn := dn) (s := s)
    split
    · have := ih (atP L name q ph dn s); omega
    · omega
theorem bwU_take (zs : List Nat) {k : Nat} (hk : k ≤ zs.length) : (bwU zs k).map Prod.snd = zs.reverse.take k := by
  apply List.ext_getElem
  · simp [bwU]; omega
  · intro i h1 h2
    simp [bwU, bwF] at h1 ⊢
    rw [List.getElem?_eq_getElem (by omega)]
    rfl
theorem bk_turn {W W' : World} {row : Option Nat} {g : Nat} {t : TypeId} {cs : Array Value} (h : Bk W g t cs) (hg : W.grownBy W' row) (hr : ∀ r, row = some r → ∃ o : Obj, W.heap[r]? = some o ∧ o.isCells = false) : Bk W' g t cs := by
  refine (hg.block g h.lt (fun e => ?_)).trans h
  obtain ⟨o, ho, hc⟩ := hr g e.symm
  have h2 : W.heap[g]? = some _ := h
  rw [ho] at h2; injection h2 with h2; subst h2; cases hc
set_option maxRecDepth 100000 in
set_option maxHeartbeats 16000000 in
theorem c_along {w : World} {B B0 E Sb gw cw : Nat} {name : ByteArray} {vl vg vc : Value} {L : List EarV} {s : SnS} (h : SM B B0 E Sb name vl vg vc L s w) (hL : L.length ≤ 200) (hs : s.now = false) (hon : s.on = true) (hC : s.C.length ≤ 100000000) (t : List Nat) (id : Nat) (rises : Bool) (ht : t.length ≤ 900)
    (hw : ∀ (j x : Nat), (id :: t.reverse)[j]? = some x → w.cell? ⟨gw, j, none⟩ = some (.int .i64 (x : Int))) (hgw : gw < w.heap.size) (hgx : ¬ exA E vl vg vc Sb gw) (hcw : t.length + 1 ≤ cw) :
    Calls Tryd.prog 72 #[.pointer (some ⟨Sb, 0, none⟩), .slice (some ⟨gw, 0, none⟩) (t.length + 1) cw, .bool rises, .func (.func 70) #[] #[], .func (.func 71) #[] #[]] w fun e w' => (∃ u, e = .returned u) ∧ ∃ vc', AtW B B0 E Sb name vl vg vc vc' L (sendP L name t id rises s) w w' := by
  have H := Lib.hid h
  have HW := Lib.hid hw
  have HGX := Lib.hid hgx
  obtain ⟨tl, htl⟩ : ∃ tl, tl = t.length := ⟨_, rfl⟩
  have HTL := Lib.hid htl
  rw [← htl] at ht hcw ⊢
  have HSN := Lib.hid hs
  have HON := Lib.hid hon
  have HCL := Lib.hid hC
  clear h hw hgx htl hs hon hC
  refine (callsIn_wide (n := 5)).1 ?_
  refine callsIn_of_wp_marks Tryd.func72 rfl trivial ?_ rfl
  simp only [Tryd.ntmps72, List.size_toArray, List.length_cons, List.length_nil, Nat.reduceAdd, Nat.reduceSub, Array.replicate_succ, Array.replicate_zero, List.push_toArray, List.append_toArray, List.nil_append, List.cons_append]
  refine wpIn_wide.2 ?_
  have hbk := fun (a : Option Addr) (len cap : Nat) (w : World) => callsIn_wide.1 (bw_in Fence.wide 5 trivial rfl a len cap w)
  have HBW := Lib.hid hbk
  have h3 : (1 : Int) ≤ (tl : Int) + 1 := by omega
  have h4 : (tl : Int) + 1 ≤ (cw : Int) := by omega
  have h5 : ((tl : Int) + 1 - 1).toNat = tl := by omega
  clear hbk
  have HWT : Hid (∀ j, j < tl → w.cell? ⟨gw, 1 + j, none⟩ = some (.int .i64 ((t.reverse[j]?.getD 0 : Nat) : Int))) := fun j hj => by
    have hjt : j < t.reverse.length := by rw [List.length_reverse, ← HTL.out]; exact hj
    rw [Nat.add_comm]
    refine HW.out (j + 1) _ ?_
    rw [List.getElem?_cons_succ, List.getElem?_eq_getElem hjt]; rfl
  go_upto_region 1 with fail
  obtain ⟨b5, hb5⟩ : ∃ b5, b5 = w.heap.size := ⟨_, rfl⟩
  obtain ⟨w1, hw1⟩ : ∃ w1, w1 = (w.alloc (.cells #[.pointer (some ⟨Sb, 0, none⟩)] 120)).alloc (.cells #[.func (.func 70) #[] #[]] 123) := ⟨_, rfl⟩
  rw [← hw1, ← hb5]
  obtain ⟨b8, hb8⟩ : ∃ b8, b8 = b5 + 1 := ⟨_, rfl⟩
  rw [← hb8]
  have HB5 : Hid (Bk w1 b5 120 #[.pointer (some ⟨Sb, 0, none⟩)]) := by rw [hw1, hb5]; exact (Bk.new _ _ _).alloc _
  have HB8 : Hid (Bk w1 b8 123 #[.func (.func 70) #[] #[]]) := by rw [hw1, hb8, hb5]; exact bk_new' _ _ _ (by simp)
  have HBL : Hid (Below w.heap.size w w1) := by rw [hw1]; exact bl_alloc (bl_alloc (Below.refl _ _) _) _
  have HA1 : Hid (AtW B B0 E Sb name vl vg vc vc L s w w1) := (AtW.refl H.out).below HBL.out
  have HN58 : Hid (w.heap.size ≤ b5 ∧ w.heap.size ≤ b8) := by unfold Hid; omega
  clear hw1 hb5 hb8
  go_cut [24] from 22 to 24 (fun v24 wx => ∃ bs, v24 = .func (.func 118) #[] #[.pointer (some ⟨bs, 0, none⟩)] ∧ Hid (w1.heap.size ≤ bs ∧ Below w1.heap.size w1 wx ∧ ∃ off cp, Bk wx bs 75 #[.slice (some ⟨gw, off, none⟩) tl cp] ∧ ∀ j, j < tl → w.cell? ⟨gw, off + j, none⟩ = some (.int .i64 ((t.reverse[j]?.getD 0 : Nat) : Int))))
  case first =>
    by_cases hc1 : cw = 1
    case pos =>
      obtain rfl : tl = 0 := by omega
      subst hc1
      go_wp2_with (go_at_call 100; refine (HBW.out _ _ _ _).mono ?_; rintro e w' ⟨rfl, rfl⟩)
      go_meet
      exact ⟨_, rfl, Nat.le_refl _, bl_alloc (Below.refl _ _) _, _, _, Bk.new _ _ _, fun j hj => absurd hj (Nat.not_lt_zero _)⟩
    case neg =>
      have hc2 : ¬ (cw : Int) = 1 := by omega
      have hc3 : ¬ cw - 1 = 0 := by omega
      go_wp2_with (go_at_call 100; refine (HBW.out _ _ _ _).mono ?_; rintro e w' ⟨rfl, rfl⟩)
      go_meet
      exact ⟨_, rfl, Nat.le_refl _, bl_alloc (Below.refl _ _) _, _, _, Bk.new _ _ _, HWT.out⟩
  case rest =>
    obtain ⟨bs, rfl, hcu⟩ := hcut
    obtain ⟨hbs, hb2, off, cp, hbk, hcs⟩ := hcu.out
    obtain ⟨w2, rfl⟩ : ∃ w2 : World, w2 = wc := ⟨_, rfl⟩
    clear hcu
    have HBS := Lib.hid hbs
    have HB2 := Lib.hid hb2
    have HBK := Lib.hid hbk
    have HCS := Lib.hid hcs
    have HA2 : Hid (AtW B B0 E Sb name vl vg vc vc L s w w2) := HA1.out.below HB2.out
    have h52 : Hid (Bk w2 b5 120 #[.pointer (some ⟨Sb, 0, none⟩)]) := HB5.out.below HB2.out HB5.out.lt
    have h82 : Hid (Bk w2 b8 123 #[.func (.func 70) #[] #[]]) := HB8.out.below HB2.out HB8.out.lt
    have HGW2 : Hid (gw < w2.heap.size) := Nat.lt_of_lt_of_le (Nat.lt_of_lt_of_le hgw HBL.out.size) HB2.out.size
    have hzl : t.reverse.length = tl := by rw [List.length_reverse, ← HTL.out]
    have HZL := Lib.hid hzl
    have hws2 : Hid (w.heap.size ≤ w2.heap.size) := Nat.le_trans HBL.out.size HB2.out.size
    have HNX : Hid (∀ k, k = gw ∨ k = bs ∨ k = b5 ∨ k = b8 → ¬ exS vg vc Sb k ∧ k < w2.heap.size) := fun k hk => by
      have hbig : ∀ k, w.heap.size ≤ k → ¬ exS vg vc Sb k := fun k h1 e => by
        rcases e with e | e | e
        · have := (H.out.ea.fb (.inr (.inr e))).2; omega
        · have := H.out.sb.lt; omega
        · have := (own_lt H.out.oc e).2; omega
      have h2 := HBL.out.size
      rcases hk with rfl | rfl | rfl | rfl
      · exact ⟨fun e => HGX.out (by rcases e with e | e | e; exact .inl (.inr (.inr e)); exact .inr (.inl e); exact .inr (.inr e)), HGW2.out⟩
      · exact ⟨hbig _ (Nat.le_trans h2 HBS.out), HBK.out.lt⟩
      · exact ⟨hbig _ HN58.out.1, h52.out.lt⟩
      · exact ⟨hbig _ HN58.out.2, h82.out.lt⟩
    have HNV : Hid (∀ k vc' st W, AtW B B0 E Sb name vl vg vc vc' L st w2 W → (k = gw ∨ k = bs ∨ k = b5 ∨ k = b8) → ¬ exS vg vc' Sb k ∧ k < W.heap.size) := fun k vc' st W hA hk => by
      obtain ⟨h1, h2⟩ := HNX.out k hk
      refine ⟨fun e => h1 ?_, Nat.lt_of_lt_of_le h2 hA.kept.size⟩
      rcases e with e | e | e
      · exact .inl e
      · exact .inr (.inl e)
      · exact .inr (.inr (hA.sub k h2 e))
    clear hbs hb2 hbk hcs hzl
    have HEND : Hid (∀ (D : Nat) (tm : Array Value) (W : World) (vc' : Value), AtW B B0 E Sb name vl vg vc vc' L (sendP L name t id rises s) w2 W → W.heap[D]? = some (.deferred (some [])) → w2.heap.size ≤ D →
        bodyPostM Fence.wide 5 Tryd.prog Tryd.f72 (fun e w' => (∃ u, e = .returned u) ∧ ∃ vc', AtW B B0 E Sb name vl vg vc vc' L (sendP L name t id rises s) w w') Exit.ret { tmps := tm, defers := [{ target := Target.collected D, args := #[] }] } W) := fun D tm W vc' hA hK hD => by
      refine ⟨by simp, .inl ⟨_, _, rfl, run_takeDeferred hK, ?_⟩⟩
      exact ⟨_, results_none rfl _ _ _, ⟨_, rfl⟩, vc', (HA2.out.trans hA).turn (grownBy_putObj' _ D _) (fun r e => by cases e; exact ⟨Nat.le_trans hws2.out hD, _, hK, rfl⟩)⟩
    go_wp2_with fail
    refine (wpIn_wide (n := 5)).1 ?_
    refine wpIn_rangeFunc_ownF (F := Fence.wide) (n := 5) (α := Nat × Nat) rfl (by omega) (gf := 118) (lb := #[.pointer (some ⟨bs, 0, none⟩)]) rfl trivial (enters_of Tryd.func118 (by kernel_rfl) rfl)
      (bw_stops Fence.wide 4 trivial rfl (by omega) bs gw off cp t.reverse (by rw [HZL.out]; omega) (fun k => k = gw ∨ k = bs) (.inl rfl) (.inr rfl) w2 HBK.out.lt HGW2.out (by rw [HZL.out]; exact HBK.out.cell 0) (fun j hj => ?_)) (fun h1 h2 k hk => (h2 k hk).trans (h1 k hk)) (fun W l o o' hl ho hc hw k hk => ?_) (Below.refl _ _) (fun _ => rfl)
      (fun pre W => (∃ vc', AtW B B0 E Sb name vl vg vc vc' L (runG L name 1 true (pre.map Prod.snd) s) w2 W) ∧ (runG L name 1 true (pre.map Prod.snd) s).on = true ∧ Bk W b5 120 #[.pointer (some ⟨Sb, 0, none⟩)] ∧ Bk W b8 123 #[.func (.func 70) #[] #[]])
      (fun c pre W => c = .ret ∧ (∃ vc', AtW B B0 E Sb name vl vg vc vc' L (runG L name 1 true (pre.map Prod.snd) s) w2 W) ∧ (runG L name 1 true (pre.map Prod.snd) s).on = false ∧ pre ≠ [])
      (fun pre A A' row hi hg hr => ?_) (fun c pre A A' row hi hg hr => ?_) ?_ (fun x => { tmps := #[.pointer (some ⟨Sb, 0, none⟩), .slice (some ⟨gw, 0, none⟩) (tl + 1) cw, .bool rises, .func (.func 70) #[] #[], .func (.func 71) #[] #[], .pointer (some ⟨b5, 0, none⟩), undef, undef, .pointer (some ⟨b8, 0, none⟩), undef, undef, .int .i64 (x.2 : Int), undef, undef, undef, undef, undef, undef, undef, undef, undef, undef, u22, u23, .func (.func 118) #[] #[.pointer (some ⟨bs, 0, none⟩)], .int .i64 (x.1 : Int), .int .i64 (x.2 : Int), undef, undef, undef, undef, undef, undef, undef, undef, undef, undef, undef, undef, undef, undef, undef, undef, undef, undef, undef, undef, undef, undef, undef, undef, undef, undef, undef, undef, undef, undef, undef, undef, undef, undef, undef, undef, undef, undef, undef, undef, undef, undef, undef, undef, undef, undef, undef, undef, undef, undef, undef, undef, undef, undef, undef], defers := [] }) ?assign ?body ?done ?stop
    case assign =>
      intro l x W K hK
      gi_wp2
      exact hK
    case body =>
      rintro l pre x W ⟨⟨vc', hA⟩, hon, hb5, hb8⟩ hlen
      have HA := Lib.hid hA
      have HO := Lib.hid hon
      have HPB : Hid ((runG L name 1 true (pre.map Prod.snd) s).C.length ≤ 1000000000) := by
        have h1 := runG_C L name 1 true (pre.map Prod.snd) s
        have h2 := HCL.out
        rw [List.length_map] at h1
        have h3 : pre.length < t.reverse.length := hlen
        rw [HZL.out] at h3
        have h4 : pre.length * L.length ≤ 900 * 200 := Nat.mul_le_mul (by omega) hL
        unfold Hid
        omega
      have HAT := Lib.hid (c_at1 hA.sm hL (runG_now _ _ HSN.out hon) HPB.out x.2 1)
      have H5 := Lib.hid hb5
      have H8 := Lib.hid hb8
      have c5 := hb5.cell 0
      have c8 := hb8.cell 0
      have l5 := hb5.lt
      have l8 := hb8.lt
      have h14 : 1 ≤ 5 - 1 - 1 := by omega
      clear hA hon hb5 hb8
      have hsn : runG L name 1 true ((pre ++ [x]).map Prod.snd) s = atP L name x.2 1 true (runG L name 1 true (pre.map Prod.snd) s) := by
        rw [List.map_append]; exact runG_snoc L name 1 true x.2 _ s HON.out HO.out
      have HSX := Lib.hid hsn
      clear hsn
      obtain ⟨on, hon⟩ : ∃ on, on = (atP L name x.2 1 true (runG L name 1 true (pre.map Prod.snd) s)).on := ⟨_, rfl⟩
      have HON2 := Lib.hid hon
      have hat := HAT.out
      unfold AsRet at hat
      rw [← hon] at hat
      have HAT2 := Lib.hid hat
      clear hon hat HAT
      cases on
      case true =>
        gi_wp2_with (refine ⟨trivial, ?_⟩; gi_at_call 101; refine (CallsIn.inRound l (callsIn_wide.2 HAT2.out)).mono ?_; rintro e W' ⟨v2, rfl, h2⟩; have HA2' := Lib.hid h2; clear h2)
        refine ⟨AtW.others HA.out.sm HA2'.out, fun k hk => ?_, ⟨v2, ?_⟩, ?_, ?_, ?_⟩
        · obtain ⟨h1, h2⟩ := HNV.out k _ _ _ HA.out (by rcases hk with rfl | rfl; exact .inl rfl; exact .inr (.inl rfl))
          exact HA2'.out.kept.block k h2 h1
        · rw [HSX.out]; exact HA.out.trans HA2'.out
        · rw [HSX.out]; exact HON2.out.symm
        · obtain ⟨h1, h2⟩ := HNV.out b5 _ _ _ HA.out (.inr (.inr (.inl rfl)))
          exact (HA2'.out.kept.block b5 h2 h1).trans H5.out
        · obtain ⟨h1, h2⟩ := HNV.out b8 _ _ _ HA.out (.inr (.inr (.inr rfl)))
          exact (HA2'.out.kept.block b8 h2 h1).trans H8.out
      case false =>
        gi_wp2_with (refine ⟨trivial, ?_⟩; gi_at_call 101; refine (CallsIn.inRound l (callsIn_wide.2 HAT2.out)).mono ?_; rintro e W' ⟨v2, rfl, h2⟩; have HA2' := Lib.hid h2; clear h2)
        refine ⟨AtW.others HA.out.sm HA2'.out, rfl, ⟨v2, ?_⟩, ?_, by simp⟩
        · rw [HSX.out]; exact HA.out.trans HA2'.out
        · rw [HSX.out]; exact HON2.out.symm
    case done =>
      rintro D ys W hD rfl ⟨⟨vc', hA⟩, hon, hb5, hb8⟩ hK
      have hmt : (bwU t.reverse t.reverse.length).map Prod.snd = t := by rw [bwU_snd, List.reverse_reverse]
      rw [hmt] at hA hon
      obtain ⟨s1, hs1⟩ : ∃ s1, s1 = runG L name 1 true t s := ⟨_, rfl⟩
      have HS1 := Lib.hid hs1
      have hn1 : s1.now = false := by rw [hs1]; exact runG_now _ _ HSN.out hon
      have HC1 : Hid (s1.C.length ≤ 200000000) := by
        have h1 := runG_C L name 1 true t s
        have h2 := HCL.out
        have h3 : t.length * L.length ≤ 900 * 200 := Nat.mul_le_mul (by rw [← HTL.out]; exact ht) hL
        rw [hs1]; unfold Hid; omega
      rw [← hs1] at hA hon
      have HA := Lib.hid hA
      have HON1 := Lib.hid hon
      have HN1 := Lib.hid hn1
      have HK := Lib.hid hK
      have HD := Lib.hid hD
      have HCEL : Hid (∀ W' v st, AtW B B0 E Sb name vl vg vc v L st w2 W' → (W'.cell? ⟨b5, 0, none⟩ = some (.pointer (some ⟨Sb, 0, none⟩)) ∧ W'.cell? ⟨b8, 0, none⟩ = some (.func (.func 70) #[] #[]) ∧ W'.cell? ⟨gw, 0, none⟩ = some (.int .i64 (id : Int)))) := fun W' v st h => by
        obtain ⟨q1, q2⟩ := HNX.out b5 (.inr (.inr (.inl rfl)))
        obtain ⟨q3, q4⟩ := HNX.out b8 (.inr (.inr (.inr rfl)))
        obtain ⟨q5, q6⟩ := HNX.out gw (.inl rfl)
        have h5 : Bk W' b5 120 #[.pointer (some ⟨Sb, 0, none⟩)] := (h.kept.block b5 q2 q1).trans h52.out
        have h8 : Bk W' b8 123 #[.func (.func 70) #[] #[]] := (h.kept.block b8 q4 q3).trans h82.out
        refine ⟨h5.cell 0, h8.cell 0, ?_⟩
        refine (World.cell?_of_block (a := ⟨gw, 0, none⟩) ((h.kept.block gw q6 q5).trans ((HB2.out.block gw (Nat.lt_of_lt_of_le hgw HBL.out.size)).trans (HBL.out.block gw hgw)))).trans (HW.out 0 id rfl)
      have HAT := Lib.hid (c_at1 (HA.out.sm.below (bl_drew (Below.refl _ _))) hL hn1 (Nat.le_trans HC1.out (by decide)) id 2)
      clear hmt hA hon hb5 hb8 hK hs1 hn1
      go_upto_region 5 with fail
      obtain ⟨p0, p1, p2⟩ := HCEL.out _ _ _ HA.out
      go_region_held3 (fun W' => W'.cell? ⟨b5, 0, none⟩ = some (.pointer (some ⟨Sb, 0, none⟩)) ∧ W'.cell? ⟨b8, 0, none⟩ = some (.func (.func 70) #[] #[]) ∧ W'.cell? ⟨gw, 0, none⟩ = some (.int .i64 (id : Int)))
        (first | with_reducible exact HCEL.out _ _ _ HA.out | exact HCEL.out _ _ _ (HA.out.below (bl_drew (Below.refl _ _))) | with_reducible exact HCEL.out _ _ _ HA3.out)
        (first | (go_at_call 101; (with_reducible refine (HAT.out).mono ?_); rintro e W3 ⟨v3, rfl, h3⟩; have HA3 : Hid (AtW B B0 E Sb name vl vg vc v3 L (atP L name id 2 true s1) w2 W3) := (HA.out.below (bl_drew (Below.refl _ _))).trans h3; have HK3 : Hid (W3.heap[D]? = some (.deferred (some []))) := (AtW.others (HA.out.sm.below (bl_drew (Below.refl _ _))) h3).same D _ HK.out rfl; clear h3))
      obtain ⟨s2, hs2⟩ : ∃ s2, s2 = atP L name id 2 true s1 := ⟨_, rfl⟩
      have HS2 := Lib.hid hs2
      rw [← hs2] at HA3 ⊢
      clear hs2 HAT p0 p1 p2
      have HC2 : Hid (s2.C.length ≤ 200001000) := by
        have h1 := atP_C (L := L) (name := name) (id := id) (ph := 2) (dn := true) (s := s1)
        have := HC1.out
        unfold Hid
        rw [HS2.out]; omega
      obtain ⟨bn, hbn⟩ : ∃ b, b = s2.now := ⟨_, rfl⟩
      obtain ⟨bo, hbo⟩ : ∃ b, b = s2.on := ⟨_, rfl⟩
      rw [← hbn, ← hbo]
      have HBN := Lib.hid hbn
      have HBO := Lib.hid hbo
      clear hbn hbo
      cases bn
      case true =>
        have hn2 := HBN.out.symm
        have hsp : sendP L name t id rises s = s2 := by
          unfold sendP
          rw [← HS1.out, ← HS2.out, HON1.out, hn2]; rfl
        have HSP := Lib.hid hsp
        clear hsp hn2
        go_wp2_with fail
        exact HEND.out D _ _ v3 (by rw [HSP.out]; exact HA3.out) HK3.out HD.out
      have hn2f : s2.now = false := HBN.out.symm
      have HN2 := Lib.hid hn2f
      have HAT := Lib.hid (c_at0 (HA3.out.sm.below (bl_drew (Below.refl _ _))) hL hn2f (Nat.le_trans HC2.out (by decide)) id 2)
      clear hn2f
      go_upto_region 7 with fail
      obtain ⟨p0, p1, p2⟩ := HCEL.out _ _ _ HA3.out
      go_region_held3 (fun W' => W'.cell? ⟨b5, 0, none⟩ = some (.pointer (some ⟨Sb, 0, none⟩)) ∧ W'.cell? ⟨b8, 0, none⟩ = some (.func (.func 70) #[] #[]) ∧ W'.cell? ⟨gw, 0, none⟩ = some (.int .i64 (id : Int)))
        (first | with_reducible exact HCEL.out _ _ _ HA3.out | exact HCEL.out _ _ _ (HA3.out.below (bl_drew (Below.refl _ _))) | with_reducible exact HCEL.out _ _ _ HA4.out)
        (first | (go_at_call 101; (with_reducible refine (HAT.out).mono ?_); rintro e W4 ⟨v4, rfl, h4⟩; have HA4 : Hid (AtW B B0 E Sb name vl vg vc v4 L (atP L name id 2 false s2) w2 W4) := (HA3.out.below (bl_drew (Below.refl _ _))).trans h4; have HK4 : Hid (W4.heap[D]? = some (.deferred (some []))) := (AtW.others (HA3.out.sm.below (bl_drew (Below.refl _ _))) h4).same D _ HK3.out rfl; clear h4))
      obtain ⟨s3, hs3⟩ : ∃ s3, s3 = atP L name id 2 false s2 := ⟨_, rfl⟩
      have HS3 := Lib.hid hs3
      rw [← hs3] at HA4 ⊢
      clear hs3 HAT p0 p1 p2
      have HSE : Hid (sendP L name t id rises s = if !s2.on || !s3.on || !rises then s3 else runG L name 3 false t.reverse s3) := by
        unfold Hid sendP
        rw [← HS1.out, ← HS2.out, ← HS3.out, HON1.out, HN2.out]; rfl
      obtain ⟨bo3, hbo3⟩ : ∃ b, b = s3.on := ⟨_, rfl⟩
      rw [← hbo3]
      have HBO3 := Lib.hid hbo3
      clear hbo3
      cases bo
      case false =>
        have c2f : s2.on = false := HBO.out.symm
        have HSP : Hid (sendP L name t id rises s = s3) := by unfold Hid; rw [HSE.out, c2f]; rfl
        clear c2f
        go_wp2_with fail
        exact HEND.out D _ _ v4 (by rw [HSP.out]; exact HA4.out) HK4.out HD.out
      have c2 : s2.on = true := HBO.out.symm
      cases bo3
      case false =>
        have c3f : s3.on = false := HBO3.out.symm
        have HSP : Hid (sendP L name t id rises s = s3) := by unfold Hid; rw [HSE.out, c3f]; simp
        clear c3f c2
        go_wp2_with fail
        exact HEND.out D _ _ v4 (by rw [HSP.out]; exact HA4.out) HK4.out HD.out
      have c3 : s3.on = true := HBO3.out.symm
      cases rises
      case false =>
        have HSP : Hid (sendP L name t id false s = s3) := by unfold Hid; rw [HSE.out]; simp
        clear c2 c3
        go_wp2_with fail
        exact HEND.out D _ _ v4 (by rw [HSP.out]; exact HA4.out) HK4.out HD.out
      have HSP : Hid (sendP L name t id true s = runG L name 3 false t.reverse s3) := by unfold Hid; rw [HSE.out, c2, c3]; rfl
      have HON3 := Lib.hid c3
      have HN3 : Hid (s3.now = false) := by
        cases hn : s3.now with
        | false => rfl
        | true =>
          have := atP_on (L := L) (name := name) (id := id) (ph := 2) (dn := false) HN2.out (by rw [← HS3.out]; exact hn)
          rw [← HS3.out, c3] at this; cases this
      clear HSE c2 c3
      go_upto_region 9 with fail
      go_cut [66, 67, 68] from 65 to 68 (fun v66 v67 v68 wx => v67 = .int .i64 (tl : Int) ∧ v68 = .int .i64 0 ∧ wx = W4 ∧ ∃ off2 cp2, v66 = .slice (some ⟨gw, off2, none⟩) tl cp2 ∧ Hid (∀ j, j < tl → w.cell? ⟨gw, off2 + j, none⟩ = some (.int .i64 ((t.reverse[j]?.getD 0 : Nat) : Int))))
      case first =>
        by_cases hc1 : cw = 1
        case pos =>
          obtain rfl : tl = 0 := by omega
          subst hc1
          go_wp2_with fail
          go_meet
          exact ⟨rfl, rfl, rfl, _, _, rfl, fun j hj => absurd hj (Nat.not_lt_zero _)⟩
        case neg =>
          have hc2 : ¬ (cw : Int) = 1 := by omega
          have hc3 : ¬ cw - 1 = 0 := by omega
          go_wp2_with fail
          go_meet
          exact ⟨rfl, rfl, rfl, _, _, rfl, HWT.out⟩
      case rest =>
        obtain ⟨rfl, rfl, rfl, off2, cp2, rfl, HW2⟩ := hcut
        have hwW : ∀ W' v st, AtW B B0 E Sb name vl vg vc v L st w2 W' → ∀ j, j < tl → W'.cell? ⟨gw, off2 + j, none⟩ = some (.int .i64 ((t.reverse[j]?.getD 0 : Nat) : Int)) := fun W' v st h j hj => by
          obtain ⟨q5, q6⟩ := HNX.out gw (.inl rfl)
          exact (World.cell?_of_block (a := ⟨gw, off2 + j, none⟩) ((h.kept.block gw q6 q5).trans ((HB2.out.block gw (Nat.lt_of_lt_of_le hgw HBL.out.size)).trans (HBL.out.block gw hgw)))).trans (HW2.out j hj)
        have HWC := Lib.hid hwW
        have HC3 : Hid (s3.C.length ≤ 200002000) := by
          have h1 := atP_C (L := L) (name := name) (id := id) (ph := 2) (dn := false) (s := s2)
          have := HC2.out
          unfold Hid
          rw [HS3.out]; omega
        clear hwW
        go_wp2_with fail
        go_loopw [68] (fun c wr => ∃ (k : Nat) (v5 : Value) (st : SnS), k ≤ tl ∧ c = .int .i64 (k : Int) ∧ Hid (AtW B B0 E Sb name vl vg vc v5 L st w2 wr) ∧ Hid (st = runG L name 3 false (t.reverse.take k) s3) ∧ Hid (st.on = true) ∧ Hid (wr.heap[D]? = some (.deferred (some [])))) (fun c _ => tl - (intOf c).toNat)
        case atStart => exact ⟨0, v4, s3, Nat.zero_le _, rfl, HA4.out, rfl, HON3.out, HK4.out⟩
        case round =>
          obtain ⟨k, v5, st, hk, rfl, HA5, HST, HONk, HKk⟩ := hrel
          by_cases hlt : k < tl
          case neg =>
            obtain rfl : k = tl := by omega
            have hkk : ¬ (k : Int) < (k : Int) := by omega
            have HSP2 : Hid (sendP L name t id true s = st) := by
              unfold Hid
              rw [HSP.out, HST.out, ← HZL.out, List.take_length]
            go_wp2_with fail
            exact HEND.out D _ _ v5 (by rw [HSP2.out]; exact HA5.out) HKk.out HD.out
          have hkl : (k : Int) < (tl : Int) := by omega
          obtain ⟨x, hx⟩ : ∃ x, x = t.reverse[k]?.getD 0 := ⟨_, rfl⟩
          have hcx := HWC.out _ _ _ HA5.out k hlt
          rw [← hx] at hcx
          obtain ⟨p0, p1, p2⟩ := HCEL.out _ _ _ HA5.out
          have htk : t.reverse.take (k + 1) = t.reverse.take k ++ [x] := by
            have hkt : k < t.reverse.length := by rw [HZL.out]; exact hlt
            rw [List.take_add_one, hx, List.getElem?_eq_getElem hkt]; rfl
          have hnw : st.now = false := by rw [HST.out]; exact runG_now _ _ HN3.out (by rw [← HST.out]; exact HONk.out)
          have HCB : Hid (st.C.length ≤ 1000000000) := by
            have h1 := runG_C L name 3 false (t.reverse.take k) s3
            have h2 := HC3.out
            have h3 : (t.reverse.take k).length * L.length ≤ 900 * 200 := Nat.mul_le_mul (by rw [List.length_take, HZL.out]; omega) hL
            rw [HST.out]; unfold Hid; omega
          have HSN2 : Hid (runG L name 3 false (t.reverse.take (k + 1)) s3 = atP L name x 3 false st) := by
            unfold Hid
            rw [htk, runG_snoc L name 3 false x _ s3 HON3.out (by rw [← HST.out]; exact HONk.out), ← HST.out]
          have hgl : gw < wr.heap.size := Nat.lt_of_lt_of_le HGW2.out HA5.out.kept.size
          have HAT := c_at0 HA5.out.sm hL hnw HCB.out x 3
          obtain ⟨bo, hbo⟩ : ∃ b, b = (atP L name x 3 false st).on := ⟨_, rfl⟩
          unfold AsRet at HAT
          rw [← hbo] at HAT
          have HBO5 := Lib.hid hbo
          have HATH := Lib.hid HAT
          clear hx htk hnw hbo HAT
          cases bo
          case true =>
            go_wp2_with (go_at_call 101; refine (HATH.out).mono ?_; rintro e W5 ⟨v6, rfl, h6⟩; have HA6 := Lib.hid h6; clear h6)
            go_roundw
            case rel => exact ⟨k + 1, v6, _, by omega, by go_num, HA5.out.trans HA6.out, HSN2.out.symm, HBO5.out.symm, (AtW.others HA5.out.sm HA6.out).same D _ HKk.out rfl⟩
            case measure => simp [intOf]; omega
          case false =>
            go_wp2_with (go_at_call 101; refine (HATH.out).mono ?_; rintro e W5 ⟨v6, rfl, h6⟩; have HA6 := Lib.hid h6; clear h6)
            have HSP2 : Hid (sendP L name t id true s = atP L name x 3 false st) := by
              unfold Hid
              have hoff : (runG L name 3 false (t.reverse.take (k + 1)) s3).on = false := by rw [HSN2.out]; exact HBO5.out.symm
              have hne : t.reverse.take (k + 1) ≠ [] := fun e => by
                have := congrArg List.length e
                rw [List.length_take, HZL.out] at this
                simp at this; omega
              have h1 := runG_stop L name 3 false (t.reverse.drop (k + 1)) _ s3 hne hoff
              rw [List.take_append_drop] at h1
              rw [HSP.out, h1, HSN2.out]
            exact HEND.out D _ _ v6 (by rw [HSP2.out]; exact HA5.out.trans HA6.out) ((AtW.others HA5.out.sm HA6.out).same D _ HKk.out rfl) HD.out
    case stop =>
      rintro D c pre W hD ⟨k, hk, hpre⟩ ⟨rfl, ⟨vc', hA⟩, hon, hne⟩ hK
      have hkt : pre.map Prod.snd = t.take k := by rw [hpre, bwU_take _ hk, List.reverse_reverse]
      have hrt : runG L name 1 true t s = runG L name 1 true (pre.map Prod.snd) s := by
        rw [hkt] at hon ⊢
        have := runG_stop L name 1 true (t.drop k) (t.take k) s (fun e => hne (List.map_eq_nil_iff.1 (by rw [hkt]; exact e))) hon
        rw [List.take_append_drop] at this
        exact this
      have hsp : sendP L name t id rises s = runG L name 1 true (pre.map Prod.snd) s := by
        unfold sendP
        rw [hrt, hon]; rfl
      rw [← hsp] at hA
      have HA := Lib.hid hA
      have HK := Lib.hid hK
      have HD := Lib.hid hD
      clear hA hsp hrt hkt hon hK
      gi_wp2
      exact HEND.out D _ _ _ HA.out HK.out HD.out
    · exact (HCS.out j (by rw [← HZL.out]; exact hj)) |> fun h => (HBL.out.cell (p := ⟨gw, off + j, none⟩) hgw |> fun e => ((HB2.out.cell (p := ⟨gw, off + j, none⟩) (Nat.lt_of_lt_of_le hgw HBL.out.size)).trans (e.trans h)))
    · refine World.putObj_heap_other (fun e => ?_)
      have := (HNX.out k (by rcases hk with rfl | rfl; exact .inl rfl; exact .inr (.inl rfl))).2
      omega
    · obtain ⟨⟨vc', hA⟩, h1, h2, h3⟩ := hi
      exact ⟨⟨vc', hA.turn hg hr⟩, h1, bk_turn h2 hg (fun r e => (hr r e).2), bk_turn h3 hg (fun r e => (hr r e).2)⟩
    · obtain ⟨h0, ⟨vc', hA⟩, h1, h2⟩ := hi
      exact ⟨h0, ⟨vc', hA.turn hg hr⟩, h1, h2⟩
    · exact ⟨⟨vc, AtW.refl HA2.out.sm⟩, HON.out, h52.out, h82.out⟩
end Go.Proofs.YtimlmekgapdkiaaDoor
