/- the law's look: all that a tree tells -/
import Derived.Test.YtimlmekgapdkiaaDoorVq
import Derived.Deep.AppendLies
namespace Go.Proofs.YtimlmekgapdkiaaDoor
set_option linter.unusedVariables false
set_option linter.unusedSimpArgs false
open Go.RowKit Go.Cas

/-- a node beside its two slices, as the law looks at it -/
structure LkV where
  x : Nod
  va : Value
  vk : Value
def lkc (y : LkV) : List Value := [.int .i64 y.x.k, .string y.x.tag, .string y.x.txt, y.va, y.vk]
def kpi (x : Nod) : List Value := kic x.ki ++ [.int .i64 x.pa]
theorem kpi_len (x : Nod) : (kpi x).length = x.ki.length + 1 := by simp [kpi, kic]
theorem lks_len (V : List LkV) : (V.flatMap lkc).length = V.length * 5 := by
  induction V with
  | nil => rfl
  | cons a l ih => rw [List.flatMap_cons, List.length_append, ih]; simp [lkc]; omega
/-- a list of twigs that reads as a tree -/
def LookOk (w : World) (lim : Nat) (v : Value) (T : List Nod) : Prop :=
  ∃ V : List LkV, V.map LkV.x = T ∧ RdS w lim 5 v T.length (V.flatMap lkc) ∧ ∀ y ∈ V, RdS w lim 2 y.va y.x.at_.length (atc y.x.at_) ∧ RdS w lim 1 y.vk (y.x.ki.length + 1) (kpi y.x)
theorem LookOk.below {w w' : World} {lim lim' : Nat} {v : Value} {T : List Nod} (h : LookOk w lim v T) (hb : Below lim w w') (hl : lim ≤ lim') : LookOk w' lim' v T := by
  obtain ⟨V, h1, h2, h3⟩ := h
  exact ⟨V, h1, (h2.below hb).mono hl, fun y hy => ⟨((h3 y hy).1.below hb).mono hl, ((h3 y hy).2.below hb).mono hl⟩⟩
/-- the same, told of the blocks in which it lies -/
def LookZ (w : World) (Z : Nat → Prop) (v : Value) (T : List Nod) : Prop :=
  ∃ V : List LkV, V.map LkV.x = T ∧ RdZ w Z 5 v T.length (V.flatMap lkc) ∧ ∀ y ∈ V, RdZ w Z 2 y.va y.x.at_.length (atc y.x.at_) ∧ RdZ w Z 1 y.vk (y.x.ki.length + 1) (kpi y.x)
theorem LookZ.ok {w : World} {Z : Nat → Prop} {v : Value} {T : List Nod} (h : LookZ w Z v T) (hz : ∀ k, Z k → k < w.heap.size) : LookOk w w.heap.size v T := by
  obtain ⟨V, h1, h2, h3⟩ := h
  exact ⟨V, h1, h2.toS hz, fun y hy => ⟨(h3 y hy).1.toS hz, (h3 y hy).2.toS hz⟩⟩
theorem LookZ.keep {w w' : World} {Z : Nat → Prop} {v : Value} {T : List Nod} (h : LookZ w Z v T) (hk : ∀ k, Z k → w'.heap[k]? = w.heap[k]?) : LookZ w' Z v T := by
  obtain ⟨V, h1, h2, h3⟩ := h
  exact ⟨V, h1, h2.keep hk (fun _ h => h), fun y hy => ⟨(h3 y hy).1.keep hk (fun _ h => h), (h3 y hy).2.keep hk (fun _ h => h)⟩⟩
def LkRet (T : List Nod) (w : World) (e : Ending) (w' : World) : Prop := ∃ v, e = .returned v ∧ LookZ w' (fun k => w.heap.size ≤ k ∧ k < w'.heap.size) v T ∧ Below w.heap.size w w'
structure LkL (LB : Nat) (T : List Nod) (i : Nat) (V : List LkV) (ZZ : Nat → Prop) (v : Value) (w wr : World) : Prop where
  map : V.map LkV.x = T.take i
  own : wr.ownsRow LB 86 5 v i (V.flatMap lkc)
  rd : ∀ y ∈ V, RdZ wr ZZ 2 y.va y.x.at_.length (atc y.x.at_) ∧ RdZ wr ZZ 1 y.vk (y.x.ki.length + 1) (kpi y.x)
  z : ∀ k, ZZ k → k < wr.heap.size ∧ v.ownBlock ≠ some k ∧ w.heap.size ≤ k
  bel : Below w.heap.size w wr
theorem inf_Tw : (Tryd.prog.info? 86).map (fun i => (i.zero, i.size, i.bytes)) = some (some (.agg #[.int .i64 0, .string ByteArray.empty, .string ByteArray.empty, .slice none 0 0, .slice none 0 0]), 5, 88) := by kernel_rfl
set_option maxRecDepth 100000 in
set_option maxHeartbeats 8000000 in
theorem c_look {w : World} {B R n : Nat} {T : List Nod} {D : List (Value × List Nod)} {F : Nat → Prop} (h : TS B R T D F w) (hg : Gd T n) (hn : n ≤ 1000) :
    Calls Tryd.prog 20 #[.pointer (some ⟨R, 0, none⟩)] w (LkRet T w) := by
  have H := Lib.hid h
  have HGD := Lib.hid hg
  have HN := Lib.hid hn
  have hT4 := hg.len
  have HSZ : Hid (∀ W', Below w.heap.size w W' → Calls Tryd.prog 18 #[.pointer (some ⟨R, 0, none⟩)] W' fun e w' => e = .returned (.int .i64 (T.length : Int)) ∧ W' = w') := fun W' hb => c_Size (h.below hb)
  clear h hg hn
  go_enter Tryd.func20, Tryd.ntmps20
  go_wp2_with fail
  go_loopw [3, 4] (fun v c wr => ∃ (i : Nat) (V : List LkV) (ZZ : Nat → Prop), i ≤ T.length ∧ c = .int .i64 (i : Int) ∧ Hid (LkL w.heap.size T i V ZZ v w wr)) (fun _ c _ => T.length - (intOf c).toNat)
  case atStart => exact ⟨0, [], fun _ => False, by omega, rfl, by simp, World.ownsRow_nil _ _ _ _, by simp, by simp, Below.refl _ _⟩
  case round =>
    obtain ⟨i, V, ZZ, hi, rfl, HL⟩ := hrel
    have HS1 := Lib.hid (HSZ.out wr HL.out.bel)
    by_cases hlt : i < T.length
    · have hil : (i : Int) < (T.length : Int) := by omega
      have hx := ndA_get hlt
      obtain ⟨x, hxx⟩ : ∃ x, x = ndA T i := ⟨_, rfl⟩
      have HX := Lib.hid hxx
      rw [← hxx] at hx
      have hxa : x.at_.length ≤ 1000 := by rw [hxx]; exact Nat.le_trans (HGD.out.at_ i) HN.out
      have hxk : x.ki.length ≤ 400 := by
        obtain ⟨d, hd⟩ := HGD.out.wf
        have := nodup_lt _ _ (hd.nd i hlt) (fun k hk => (hd.ki i hlt k hk).1)
        rw [← hxx] at this
        omega
      have HGX := Lib.hid hx
      have ht := H.out.below HL.out.bel
      have HTr := Lib.hid ht
      have HKI := Lib.hid (c_Kind ht hT4 hx)
      have HTG := Lib.hid (c_Tag ht hT4 hx)
      have HWD := Lib.hid (c_Words ht hT4 hx)
      have HAT := Lib.hid (c_Attrs ht hT4 hx (by omega))
      have HKD : Hid (∀ W', Below wr.heap.size wr W' → Calls Tryd.prog 46 #[.pointer (some ⟨R, 0, none⟩), .int .i64 (i : Int)] W' (ClRetI W' x.ki.length (kic x.ki))) := fun W' hb => c_Kids (ht.below hb) hT4 hx (by omega)
      have HPA : Hid (∀ W', Below wr.heap.size wr W' → Calls Tryd.prog 44 #[.pointer (some ⟨R, 0, none⟩), .int .i64 (i : Int)] W' fun e w' => e = .returned (.int .i64 x.pa) ∧ W' = w') := fun W' hb => c_Parent (ht.below hb) hT4 hx
      obtain ⟨na, hna⟩ : ∃ na, na = x.at_.length := ⟨_, rfl⟩
      have HNA := Lib.hid hna
      obtain ⟨nk, hnk⟩ : ∃ nk, nk = x.ki.length := ⟨_, rfl⟩
      have HNK := Lib.hid hnk
      rw [← hna] at hxa HAT
      rw [← hnk] at hxk HKD
      clear hx hxx ht hna hnk
      go_upto_region 6 with (first
        | (go_at_call 18; refine (HS1.out).mono ?_; rintro e w' ⟨rfl, rfl⟩)
        | (go_at_call 55; refine (HKI.out).mono ?_; rintro e w' ⟨rfl, rfl⟩)
        | (go_at_call 56; refine (HTG.out).mono ?_; rintro e w' ⟨rfl, rfl⟩)
        | (go_at_call 57; refine (HWD.out).mono ?_; rintro e w' ⟨rfl, rfl⟩)
        | (go_at_call 59; refine (HAT.out).mono ?_; rintro e wa ⟨va, rfl, hoa, hba⟩; obtain ⟨_, Aa, ca, rfl, _, _⟩ := RdS.of_own hoa; have HOA := Lib.hid hoa; have HBA := Lib.hid hba; clear hoa hba)
        | (go_at_call 46; refine (HKD.out _ HBA.out).mono ?_; rintro e wk ⟨vk, rfl, hok, hbk⟩; obtain ⟨_, Ak, ck, rfl, _, _⟩ := RdS.of_own hok; have HOK := Lib.hid hok; have HBK := Lib.hid hbk; clear hok hbk))
      obtain ⟨bt, hbt⟩ : ∃ bt, bt = wk.heap.size := ⟨_, rfl⟩
      obtain ⟨wt, hwt⟩ : ∃ wt, wt = wk.alloc (.cells #[.int .i64 x.k, .string x.tag, .string x.txt, .slice Aa na ca, .slice Ak nk ck] 86) := ⟨_, rfl⟩
      rw [← hwt, ← hbt]
      have hbk : Bk wt bt 86 #[.int .i64 x.k, .string x.tag, .string x.txt, .slice Aa na ca, .slice Ak nk ck] := by rw [hwt, hbt]; exact bk_new' _ _ _ rfl
      have hbl : Below wk.heap.size wk wt := by rw [hwt]; exact bl_alloc (Below.refl _ _) _
      have HOKt : Hid (wt.ownsRow wa.heap.size 3 1 (.slice Ak nk ck) nk (kic x.ki)) := own_keep HOK.out (fun k hk => hbl.block k (own_lt HOK.out hk).2)
      have HOAt : Hid (wt.ownsRow wr.heap.size 88 2 (.slice Aa na ca) na (atc x.at_)) := own_keep HOA.out (fun k hk => ((bl_trans HBK.out hbl).block k (own_lt HOA.out hk).2))
      have HBT : Hid (Below wr.heap.size wr wt) := bl_trans HBA.out (bl_trans HBK.out hbl)
      have HBKt := Lib.hid hbk
      have HBTN : Hid (∀ k, (Value.slice Ak nk ck).ownBlock = some k → k < bt) := fun k hk => by have := (own_lt HOK.out hk).2; rw [hbt]; exact this
      have HBTA : Hid (∀ k, (Value.slice Aa na ca).ownBlock = some k → k < bt ∧ k < wa.heap.size) := fun k hk => by have h1 := (own_lt HOA.out hk).2; have := HBK.out.size; rw [hbt]; exact ⟨by omega, h1⟩
      have HPX : Hid (∀ W', Below wt.heap.size wt W' → Calls Tryd.prog 44 #[.pointer (some ⟨R, 0, none⟩), .int .i64 (i : Int)] W' fun e w' => e = .returned (.int .i64 x.pa) ∧ W' = w') := fun W' hb => HPA.out W' (bl_trans HBT.out hb)
      have HWA : Hid (wr.heap.size ≤ wa.heap.size) := HBA.out.size
      have HWT : Hid (wa.heap.size ≤ wt.heap.size) := Nat.le_trans HBK.out.size hbl.size
      have HBTW : Hid (wr.heap.size ≤ bt) := by unfold Hid; have h1 := HBA.out.size; have h2 := HBK.out.size; omega
      have f4 := hbk.cell 4
      have lb := hbk.lt
      obtain ⟨i0, hi0, hz0, hz1, hz2⟩ := info_parts inf_I
      clear hbt hwt hbk hbl HOK HOA HS1 HKI HTG HWD HAT HKD HPA
      go_cut [34] (fun _ wx => Hid (∃ A2 c2, Below wr.heap.size wr wx ∧ wx.ownsRow wr.heap.size 3 1 (.slice A2 (nk + 1) c2) (nk + 1) (kpi x) ∧ wx.ownsRow wr.heap.size 88 2 (.slice Aa na ca) na (atc x.at_) ∧ Bk wx bt 86 #[.int .i64 x.k, .string x.tag, .string x.txt, .slice Aa na ca, .slice A2 (nk + 1) c2]))
      case first =>
        go_region_law
          (first
            | (refine step_append_lies (w := (wt.alloc (.cells #[.int .i64 x.pa] 3)).drew) (by rfl) _ _ _ (by rfl) wa.heap.size 3 i0 _ 1 8 Tryd.underlying75 hi0 hz0 hz1 hz2 rfl (by omega) (.slice Ak nk ck) nk (kic x.ki) (by rfl) (own_keep HOKt.out (fun k hk => heap_alloc_old wt _ (own_lt HOKt.out hk).2)) ⟨wt.heap.size, 0, none⟩ 1 1 [.int .i64 x.pa] (by rfl) (by rfl) (World.news_of_block (cs := #[.int .i64 x.pa]) (t := 3) (fr := (0, 0)) (heap_alloc_new wt _)) (by simp [Value.oneCell']) (by omega) (by unfold maxLen; omega) (by omega) (Nat.le_trans HWT.out (by simp)) (wt.heap.size + 1) (by simp) ?_; intro gg cap6 w6 hown6 hgrow6 hat6 hlt6; have HO6 := Lib.hid hown6; have HG6 := Lib.hid hgrow6; have HA6 := Lib.hid hat6; have hkb : Bk w6 bt 86 #[.int .i64 x.k, .string x.tag, .string x.txt, .slice Aa na ca, .slice Ak nk ck] := (Bk.drew (HBKt.out.alloc _)).grown hgrow6 (fun e => by have := HBTN.out bt e.symm; omega); have HKB := Lib.hid hkb; have q1 := hkb.cell 4; have q2 := hkb.free 4; have q3 := hkb.lt; clear hown6 hgrow6 hat6 hlt6 hkb)
            | (go_simp; go_at_call 44; refine (HPX.out _ (by first | exact Below.refl _ _ | exact bl_drew (Below.refl _ _))).mono ?_; rintro e w' ⟨rfl, rfl⟩))
        all_goals
          go_wp2_with fail
          go_meet
          have hb6 : Below wr.heap.size wr w6 := by
            have h1 : Below wr.heap.size wr (wt.alloc (.cells #[.int .i64 x.pa] 3)).drew := bl_drew (bl_alloc HBT.out _)
            exact h1.grown HG6.out h1.size (fun k hk => Nat.le_trans HWA.out (own_lt HOKt.out hk).1)
          have hks : ∀ u k, k ≠ bt → (w6.setCell ⟨bt, 4, none⟩ u).heap[k]? = w6.heap[k]? := fun u k hk => Below.heap_setCell w6 ⟨bt, 4, none⟩ u k hk
          have hgb : gg ≠ bt := by
            rcases HA6.out with e | e
            · have := HBTN.out gg e; omega
            · have := HBKt.out.lt; omega
          refine ⟨some ⟨gg, 0, none⟩, cap6, bl_set hb6 bt 4 HBTW.out _, ?_, ?_, ?_⟩
          · exact own_keep (own_mono HO6.out HWA.out) (fun k hk => hks _ k (by injection hk with hk; have hk2 : gg = k := hk; rw [← hk2]; exact hgb))
          · refine own_keep HOAt.out (fun k hk => ?_)
            obtain ⟨h1, h2⟩ := HBTA.out k hk
            have h3 : k < wt.heap.size := Nat.lt_of_lt_of_le h2 HWT.out
            refine (hks _ k (by omega)).trans ((HG6.out.block k (by simp; omega) (fun e => ?_)).trans (heap_alloc_old wt _ h3))
            have := (own_lt HOKt.out e.symm).1
            omega
          · exact HKB.out.set_ 4 _
      case rest =>
        obtain ⟨A2, c2, hbc, hok, hoa, hbk⟩ := hcut.out
        have HBC := Lib.hid hbc
        have HOK := Lib.hid hok
        have HOA := Lib.hid hoa
        have HBK := Lib.hid hbk
        have g0 := hbk.cell 0; have g1 := hbk.cell 1; have g2 := hbk.cell 2; have g3 := hbk.cell 3; have g4 := hbk.cell 4
        have lb := hbk.lt
        have HOV : Hid (wc.ownsRow w.heap.size 86 5 u3 i (V.flatMap lkc)) := own_keep HL.out.own (fun k hk => hbc.block k (own_lt HL.out.own hk).2)
        have hbw : w.heap.size ≤ wc.heap.size := Nat.le_trans HL.out.bel.size hbc.size
        have hi4 : i ≤ 400 := by omega
        clear hcut hbc hok hoa hbk f4 HOKt HOAt HBT HBKt HBTN HBTA HPX HWA HWT HBTW hi0 hz0 hz1 hz2 HTr
        go_wp2_with (at_builtin; refine wp_push rfl _ _ 26 rfl w.heap.size 86 Tryd.underlying26 inf_Tw rfl (by decide) wc u3 i (V.flatMap lkc) [.int .i64 x.k, .string x.tag, .string x.txt, .slice Aa na ca, .slice A2 (nk + 1) c2] rfl rfl rfl HOV.out rfl (by simp [Value.oneCell']) (by omega) (by omega) hbw ?_; intro v6 w6 hpush; have HPU := Lib.hid hpush; clear hpush)
        go_roundw
        case rel =>
          refine ⟨i + 1, V ++ [⟨x, .slice Aa na ca, .slice A2 (nk + 1) c2⟩], fun k => ZZ k ∨ (wr.heap.size ≤ k ∧ k < wc.heap.size), by omega, by go_num, ?_, ?_, ?_, ?_, ?_⟩
          · rw [List.map_append, HL.out.map, List.take_add_one, HGX.out]; rfl
          · rw [List.flatMap_append]
            have := HPU.out.own
            simpa [lkc] using this
          · have hk6 : ∀ k, u3.ownBlock ≠ some k → k < wc.heap.size → w6.heap[k]? = wc.heap[k]? := fun k hk hlt => HPU.out.grown.block k hlt (fun e => hk e.symm)
            have hob : ∀ k, u3.ownBlock = some k → k < wr.heap.size := fun k hk => (own_lt HL.out.own hk).2
            intro y hy
            rcases List.mem_append.1 hy with hy | hy
            · obtain ⟨h1, h2⟩ := HL.out.rd y hy
              have hkz : ∀ k, ZZ k → w6.heap[k]? = wr.heap[k]? := fun k hk => by
                obtain ⟨z1, z2, _⟩ := HL.out.z k hk
                exact (hk6 k z2 (Nat.lt_of_lt_of_le z1 HBC.out.size)).trans (HBC.out.block k z1)
              exact ⟨h1.keep hkz (fun k hk => .inl hk), h2.keep hkz (fun k hk => .inl hk)⟩
            · simp at hy
              subst hy
              have hkn : ∀ k, (wr.heap.size ≤ k ∧ k < wc.heap.size) → w6.heap[k]? = wc.heap[k]? := fun k hk => hk6 k (fun e => by have := hob k e; omega) hk.2
              refine ⟨?_, ?_⟩
              · show RdZ w6 _ 2 (.slice Aa na ca) x.at_.length (atc x.at_)
                rw [← HNA.out]
                exact (RdZ.of_own HOA.out (Z := fun k => wr.heap.size ≤ k ∧ k < wc.heap.size) (fun g hg => own_lt HOA.out hg)).keep hkn (fun k hk => .inr hk)
              · show RdZ w6 _ 1 (.slice A2 (nk + 1) c2) (x.ki.length + 1) (kpi x)
                rw [← HNK.out]
                exact (RdZ.of_own HOK.out (Z := fun k => wr.heap.size ≤ k ∧ k < wc.heap.size) (fun g hg => own_lt HOK.out hg)).keep hkn (fun k hk => .inr hk)
          · have hob : ∀ k, u3.ownBlock = some k → k < wr.heap.size := fun k hk => (own_lt HL.out.own hk).2
            intro k hk
            have hkc : k < wc.heap.size ∧ u3.ownBlock ≠ some k ∧ w.heap.size ≤ k := by
              rcases hk with hk | hk
              · obtain ⟨z1, z2, z3⟩ := HL.out.z k hk
                exact ⟨Nat.lt_of_lt_of_le z1 HBC.out.size, z2, z3⟩
              · exact ⟨hk.2, fun e => (by have := hob k e; omega), Nat.le_trans HL.out.bel.size hk.1⟩
            refine ⟨Nat.lt_of_lt_of_le hkc.1 HPU.out.size_, fun e => ?_, hkc.2.2⟩
            rcases HPU.out.at_ with e2 | ⟨q, hq, e2⟩
            · exact hkc.2.1 (e2 ▸ e)
            · rw [e2] at e; injection e with e; omega
          · exact HPU.out.below (bl_trans HL.out.bel HBC.out) (Nat.le_refl _) hbw
        case measure => simp [intOf]; omega
    · obtain rfl : i = T.length := by omega
      have hil : ¬ (T.length : Int) < (T.length : Int) := by omega
      go_wp2_with (go_at_call 18; refine (HS1.out).mono ?_; rintro e w' ⟨rfl, rfl⟩)
      go_ret
      refine ⟨_, rfl, ⟨V, by rw [HL.out.map, List.take_length], RdZ.of_own HL.out.own (fun g hg => own_lt HL.out.own hg), fun y hy => ?_⟩, HL.out.bel⟩
      obtain ⟨h1, h2⟩ := HL.out.rd y hy
      exact ⟨h1.keep (fun _ _ => rfl) (fun k hk => ⟨(HL.out.z k hk).2.2, (HL.out.z k hk).1⟩), h2.keep (fun _ _ => rfl) (fun k hk => ⟨(HL.out.z k hk).2.2, (HL.out.z k hk).1⟩)⟩
end Go.Proofs.YtimlmekgapdkiaaDoor
