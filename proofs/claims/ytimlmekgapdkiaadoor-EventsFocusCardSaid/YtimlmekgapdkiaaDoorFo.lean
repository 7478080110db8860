/- the order of focus: Order -/
import Derived.Test.YtimlmekgapdkiaaDoorIz
import Derived.Test.YtimlmekgapdkiaaDoorIse
import Derived.Test.YtimlmekgapdkiaaDoorUb
import Derived.Maps.Own
import Derived.Deep.RegionLaw
import Derived.Deep.AppendLies
namespace Go.Proofs.YtimlmekgapdkiaaDoor
set_option linter.unusedVariables false
set_option linter.unusedSimpArgs false
open Go.RowKit Go.Cas Go.Maps

def ixA (T : List Nod) (i : Nat) : Int × Bool := ixN (ndA T i)
def isF (T : List Nod) (i : Nat) : Bool := (ixA T i).2 && decide (0 < (ixA T i).1)
def isR (T : List Nod) (i : Nat) : Bool := (ixA T i).2 && !decide (0 < (ixA T i).1)
def datL (f : Nat → Int) (l : List Nat) : DataW Unit := l.foldl (fun D (i : Nat) => D.put (.int .i64 (i : Int)) (.lit (.int .i64 (f i)))) (.map [])
theorem datL_snoc (f : Nat → Int) (l : List Nat) (x : Nat) : datL f (l ++ [x]) = (datL f l).put (.int .i64 (x : Int)) (.lit (.int .i64 (f x))) := by simp [datL]
theorem ixL_bd (nb : Bool) (l : List UInt8) : 0 ≤ (ixL nb l).1 ∧ (ixL nb l).1 < 1000000000 := by
  unfold ixL
  split
  · exact ⟨Int.le_refl _, by decide⟩
  · rename_i h
    split
    · rename_i hd
      obtain ⟨h1, h2⟩ := numL_bd l.length l rfl hd
      have hq : ∀ m : Nat, m < 10 → (10 : Int) ^ m ≤ 1000000000 := by decide
      have := hq l.length (by omega)
      exact ⟨h1, by show numL l < _; omega⟩
    · exact ⟨Int.le_refl _, by decide⟩
theorem z_bd (b : Bool) : 0 ≤ ((0 : Int), b).1 ∧ ((0 : Int), b).1 < 1000000000 := ⟨Int.le_refl _, Int.lt_of_sub_pos (by simp)⟩
theorem ixN_bd (x : Nod) : 0 ≤ (ixN x).1 ∧ (ixN x).1 < 1000000000 := by
  unfold ixN
  split
  · exact z_bd _
  split
  · exact z_bd _
  split
  · exact ixL_bd _ _
  split
  · exact z_bd _
  split
  · exact z_bd _
  · exact z_bd _
/-- what all nodes of a tree are bounded by -/
def IxB (T : List Nod) : Prop := ∀ (i : Nat) (x : Nod), T[i]? = some x → x.at_.length ≤ 1000000 ∧ ∀ nm v, atv x.at_ nm = some v → v.size ≤ 20000
def FoRet (T : List Nod) (u : List Nat) (w : World) (e : Ending) (w' : World) : Prop := ∃ v L' LB, e = .returned v ∧ w.heap.size ≤ LB ∧ SM (fun i => (ixA T i).1) (u.filter (isF T)) L' 0 (u.filter (isF T)).length ∧ Srt (fun i => (ixA T i).1) L' 0 (u.filter (isF T)).length ∧
  w'.ownsRow LB 3 1 v (L' ++ u.filter (isR T)).length (kic (L' ++ u.filter (isR T))) ∧ Below w.heap.size w w'
theorem datL_map (f : Nat → Int) (l : List Nat) : IsMap (datL f l) := by
  obtain ⟨n, hn⟩ : ∃ n, n = l.length := ⟨_, rfl⟩
  induction n generalizing l with
  | zero => obtain rfl := List.eq_nil_of_length_eq_zero hn.symm; exact isMap_empty
  | succ n ih =>
    obtain ⟨l', x, rfl⟩ : ∃ l' x, l = l' ++ [x] := ⟨l.dropLast, l.getLast (by intro e; subst e; simp at hn), (List.dropLast_concat_getLast _).symm⟩
    rw [datL_snoc]
    exact (ih l' (by simpa using hn)).put _ _
theorem kap_datL (f : Nat → Int) (l : List Nat) : ∀ x ∈ l, kap (datL f l) x = f x := by
  obtain ⟨n, hn⟩ : ∃ n, n = l.length := ⟨_, rfl⟩
  induction n generalizing l with
  | zero => obtain rfl := List.eq_nil_of_length_eq_zero hn.symm; intro x hx; cases hx
  | succ n ih =>
    obtain ⟨l', y, rfl⟩ : ∃ l' y, l = l' ++ [y] := ⟨l.dropLast, l.getLast (by intro e; subst e; simp at hn), (List.dropLast_concat_getLast _).symm⟩
    intro x hx
    unfold kap
    rw [datL_snoc]
    by_cases e : x = y
    · subst e
      rw [atKey_put_same (datL_map f l') (show WideAt.IsKeyLit (.int .i64 (x : Int)) from trivial)]
    · rw [atKey_put_other (by intro h; injection h with _ h; exact e (by omega))]
      exact ih l' (by simpa using hn) x (by simpa [e] using hx)
theorem sm_congr {k1 k2 : Nat → Int} {L L' : List Nat} (h : ∀ x ∈ L, k1 x = k2 x) (hm : SM k1 L L' 0 L.length) : (∀ x ∈ L', x ∈ L) ∧ SM k2 L L' 0 L.length := by
  have hsub : ∀ x ∈ L', x ∈ L := fun x hx => by
    obtain ⟨i, hi, rfl⟩ := List.getElem_of_mem hx
    obtain ⟨j, _, h2, h3⟩ := hm.mem i (Nat.zero_le _) (by rw [← hm.len]; exact hi)
    rw [List.getElem?_eq_getElem hi] at h3
    exact List.mem_of_getElem? h3.symm
  refine ⟨hsub, hm.len, hm.out, hm.mem, fun s => ?_⟩
  have e := hm.stb s
  rw [List.filter_congr (q := fun x => decide (k2 x = s)) (fun x hx => by rw [h x (hsub x hx)]), List.filter_congr (l := L) (q := fun x => decide (k2 x = s)) (fun x hx => by rw [h x hx])] at e
  exact e
theorem srt_congr {k1 k2 : Nat → Int} {L : List Nat} {a b : Nat} (h : ∀ x ∈ L, k1 x = k2 x) (hs : Srt k1 L a b) : Srt k2 L a b := fun i j h1 h2 h3 => by
  have e : ∀ i, ky k2 L i = ky k1 L i := fun i => by
    unfold ky
    cases hi : L[i]? with
    | none => rfl
    | some x => show k2 x = k1 x; rw [h x (List.mem_of_getElem? hi)]
  rw [e, e]; exact hs i j h1 h2 h3
theorem step_mapUpdate_own {H : Type} {P : Program} {w : World} {ops : Array Oper} {o : Oper} {a : Act} {K' : Act → World → Prop} {Q : Exit → Act → World → Prop} {E : Prop} (hg : o.guard = none) (m x v : Operand) (t : TypeId) (hop : o.op = Op.mapUpdate t m x v)
    (k e : TypeId) (K : Keyed P k) (ht : P.underlying t = some (.map k e)) (R : Value → Option (DataW H × List MemPlace)) (b n : Nat) (D : DataW H)
    (hm : a.eval m = .map (some b)) (hown : w.ownsMap P k R b n D) (hn : n < maxLen) (key val : Value) (kl : Lit) (hx : a.eval x = key) (hv : a.eval v = val) (hkey : keyOf P k key = some kl)
    (d : DataW H) (ps : List MemPlace) (hval : R val = some (d, ps))
    (h : ∀ w', w'.ownsMap P k R b (n + 1) (D.put kl d) → w.grownBy w' (some b) → K' (a.put o.dst undef) w') :
    if Region.wanted o (yielded ops a.tmps) = true then Oper.wp P o a w K' Q else E := by
  have hw : Region.wanted o (yielded ops a.tmps) = true := by simp [Region.wanted, hg]
  rw [if_pos hw]
  obtain ⟨w', hrun, r1, r2⟩ := hown.update K ht hn hkey hval
  unfold Oper.wp
  simp [execOp, hop, hm, hx, hv, hrun, Result.andThen]
  exact h w' r1 r2
set_option maxRecDepth 100000 in
set_option maxHeartbeats 8000000 in
theorem c_FOrder {w : World} {B R : Nat} {i : Int} {F : Nat → Prop} {T : List Nod} {D : List (Value × List Nod)} {u : List Nat} (h : TS B R T D F w) (hT : T.length ≤ 400) (hB : IxB T) (hu : ∀ x ∈ u, x < T.length) (hul : u.length ≤ 400) (hU : ∀ W', Below w.heap.size w W' → Calls Tryd.prog 61 #[.pointer (some ⟨R, 0, none⟩), .int .i64 (i : Int)] W' (WyRet W' u)) :
    Calls Tryd.prog 33 #[.pointer (some ⟨R, 0, none⟩), .int .i64 (i : Int)] w (FoRet T u w) := by
  have HUN := Lib.hid hU
  have hmm := @run_makeMap Tryd.prog
  have HIX : Hid (∀ W' k, Below w.heap.size w W' → k ∈ u → Calls Tryd.prog 74 #[.pointer (some ⟨R, 0, none⟩), .int .i64 (k : Int)] W' (IxRet (ixA T k) W')) := fun W' k hb hk => by
    have hx := ndA_get (hu k hk)
    exact c_index (h.below hb) hT hx (hB k _ hx).1 (hB k _ hx).2
  have HUL := Lib.hid hul
  have HU4 : Hid (∀ x ∈ u, x < 400) := fun x hx => Nat.lt_of_lt_of_le (hu x hx) hT
  clear h hT hB hu hul hU
  go_enter Tryd.func33, Tryd.ntmps33
  go_wp2_with (go_at_call 61; refine (HUN.out _ (bl_alloc (bl_alloc (Below.refl _ _) _) _)).mono ?_; rintro e w1 ⟨v, rfl, ho, hb⟩; have HO := Lib.hid ho; have HB := Lib.hid hb; obtain ⟨_, A, cu, rfl, hcu, hcell⟩ := RdS.of_own ho; clear ho hb)
  obtain ⟨b, hb⟩ : ∃ b, b = w.heap.size := ⟨_, rfl⟩
  have hsz : ((w.alloc (.map #[] 0)).alloc (Obj.cells #[.map (some w.heap.size)] 131)).heap.size = b + 2 := by rw [hb]; simp
  have HM0 : Hid (MapIn (b + 1) b 0 (datL (fun i => (ixA T i).1) []) w1) := by
    refine MapIn.below (w0 := ((w.alloc (.map #[] 0)).alloc (Obj.cells #[.map (some w.heap.size)] 131))) ?_ HB.out
    rw [hb]
    exact ⟨(bk_new' (w.alloc (.map #[] 0)) 131 #[.map (some w.heap.size)] (by simp)).cell 0, (World.ownsMap_made _ _ _ _).alloc _, by simp, by omega⟩
  have HB1 : Hid (Below w.heap.size w w1) := bl_trans (bl_alloc (bl_alloc (Below.refl _ _) _) _) HB.out
  have HSZ : Hid (b + 2 ≤ w1.heap.size) := by have := HB.out.size; rw [hsz] at this; exact this
  have HK0 := Lib.hid (Kept.refl w1 (fun k => k = b))
  have HAB : Hid (∀ g o, A = some ⟨g, o, none⟩ → b < g) := fun g o e => by
    have h1 := (own_lt HO.out (k := g) (by rw [e]; rfl)).1
    have h2 : b + 2 ≤ g := by rw [← hsz]; exact h1
    omega
  obtain ⟨n, hn⟩ : ∃ n, n = u.length := ⟨_, rfl⟩
  have HN := Lib.hid hn
  rw [← hn] at hcell hcu HO ⊢
  have hn4 : n ≤ 400 := by rw [hn]; exact HUL.out
  have HCE := Lib.hid hcell
  obtain ⟨LB, hLB⟩ : ∃ LB, LB = w1.heap.size := ⟨_, rfl⟩
  have HLB := Lib.hid hLB
  have hbw := HLB.out
  have HBW := Lib.hid hb
  rw [← hb]
  clear hb hsz hn hcell hLB HO HB HUN hcu hbw
  go_loopw [5, 6, 19] (fun v5 v6 c wr => ∃ (j : Nat), j ≤ n ∧ c = .int .i64 (j : Int) ∧ Hid (wr.ownsRow LB 3 1 v5 ((u.take j).filter (isF T)).length (kic ((u.take j).filter (isF T)))) ∧ Hid (wr.ownsRow LB 3 1 v6 ((u.take j).filter (isR T)).length (kic ((u.take j).filter (isR T)))) ∧ Hid (Sep v5 v6) ∧ Hid (MapIn (b + 1) b j (datL (fun i => (ixA T i).1) ((u.take j).filter (isF T))) wr) ∧ Hid (Kept w1 wr (fun k => k = b))) (fun _ _ c _ => n - (intOf c).toNat)
  case atStart => exact ⟨0, by omega, rfl, World.ownsRow_nil _ _ _ _, World.ownsRow_nil _ _ _ _, Sep.none_l _, HM0.out, HK0.out⟩
  case round =>
    obtain ⟨j, hj, rfl, HO5, HO6, HSP, HMI, HKP⟩ := hrel
    by_cases hlt : j < n
    case neg =>
      obtain rfl : j = n := by omega
      have hjn : ¬ (j : Int) < (j : Int) := by omega
      have htk : u.take j = u := by rw [HN.out]; exact List.take_length
      rw [htk] at HO5 HO6 HMI
      obtain ⟨FL, hFL⟩ : ∃ FL, FL = u.filter (isF T) := ⟨_, rfl⟩
      obtain ⟨RL, hRL⟩ : ∃ RL, RL = u.filter (isR T) := ⟨_, rfl⟩
      have hF1 : FL.length ≤ j := by rw [hFL, HN.out]; exact List.length_filter_le _ _
      have hR1 : RL.length ≤ j := by rw [hRL, HN.out]; exact List.length_filter_le _ _
      have HFM : Hid (∀ x ∈ FL, x < 400) := fun x hx => HU4.out x (List.mem_filter.1 (by rw [← hFL]; exact hx)).1
      have HFL := Lib.hid hFL; have HRL := Lib.hid hRL
      rw [← hFL] at HO5 HMI
      rw [← hRL] at HO6
      have hbL : b + 2 ≤ LB := by have := HSZ.out; have := HLB.out; omega
      have HKA : Hid (∀ x ∈ FL, kapB (datL (fun i => (ixA T i).1) FL) x = (ixA T x).1) := fun x hx => by
        unfold kapB; rw [if_pos (HFM.out x hx), kap_datL _ _ x hx]
      have HCS := Lib.hid (c_isort (κ := kapB (datL (fun i => (ixA T i).1) FL)) (pv := .pointer (some ⟨b + 1, 0, none⟩)) HO5.out (by omega) (fun i x hx => by
        rw [HKA.out x (List.mem_of_getElem? hx)]
        have hz : 0 ≤ (ixA T x).1 ∧ (ixA T x).1 < 1000000000 := ixN_bd _
        exact ⟨hz.1, Int.le_of_lt hz.2⟩) (fun g hg => c_cmp HMI.out (by have := (own_lt HO5.out hg).1; omega) (by have := (own_lt HO5.out hg).1; omega)))
      have HLR : Hid (LB ≤ wr.heap.size) := by unfold Hid; rw [HLB.out]; exact HKP.out.size
      have HBR : Hid (Below w.heap.size w wr) := by
        refine HB1.out.trans (HKP.out.below fun k hk => ⟨?_, ?_⟩)
        · have := HSZ.out; rw [← HBW.out] at hk; omega
        · rw [← HBW.out] at hk; omega
      clear hFL hRL htk hlt
      obtain ⟨i0, hi0, hz0, hz1, hz2⟩ := info_parts inf_I
      go_wp2_with (first
        | (go_at_call 75; refine (HCS.out).mono ?_; rintro e w2 ⟨⟨uu, rfl⟩, L2, hsm, hsr, ho2, hk2⟩; have HSM := Lib.hid hsm; have HSR := Lib.hid hsr; have HO2 := Lib.hid ho2; have HK2 := Lib.hid hk2; have hL2 : LB ≤ w2.heap.size := Nat.le_trans HLR.out hk2.size; have hlen2 : L2.length = FL.length := hsm.len; have HR6 : Hid (w2.ownsRow LB 3 1 u6 RL.length (kic RL)) := hk2.own HO6.out (fun k hk e => HSP.out k e hk); clear hsm hsr ho2 hk2)
        | (at_builtin; refine wp_spread rfl _ _ 75 rfl LB 3 Tryd.underlying75 inf_I rfl (by omega) u5 L2.length (kic L2) rfl HO2.out w2.heap.size u6 RL.length (kic RL) rfl (RdS.of_own HR6.out) (one_kic _) (by unfold maxLen; omega) (by omega) hL2 ?_; intro v6 w6 hown6 hgrow6 hat6; have HO6' := Lib.hid hown6; have HG6 := Lib.hid hgrow6; clear hown6 hgrow6 hat6))
      go_ret
      obtain ⟨hsub, hsm⟩ := sm_congr HKA.out HSM.out
      refine ⟨_, L2, LB, rfl, by rw [← HBW.out]; omega, by rw [← HFL.out]; exact hsm, by rw [← HFL.out]; exact srt_congr (fun x hx => HKA.out x (hsub x hx)) HSR.out, ?_, ?_⟩
      · rw [← HRL.out, List.length_append, kic_app]; exact HO6'.out
      · have hb5 : ∀ k, u5.ownBlock = some k → LB ≤ k := fun k hk => (own_lt HO5.out hk).1
        have k6 : Kept wr w6 (fun k => u5.ownBlock = some k) := HK2.out.then_ (Kept.grown HG6.out (fun k => u5.ownBlock = some k) (fun k e => e)) (fun k _ e => e)
        exact HBR.out.trans (k6.below fun k hk => ⟨Nat.lt_of_lt_of_le hk HBR.out.size, fun e => by have := hb5 k e; rw [← HBW.out] at hk; omega⟩)
    case pos =>
      have hjn : (j : Int) < (n : Int) := by omega
      obtain ⟨x, hx⟩ : ∃ x, u[j]? = some x := ⟨_, List.getElem?_eq_getElem (by rw [← HN.out]; exact hlt)⟩
      have hxm := List.mem_of_getElem? hx
      have hx4 := HU4.out x hxm
      have hts : u.take (j + 1) = u.take j ++ [x] := by rw [List.take_add_one, hx]; rfl
      obtain ⟨g, o, rfl, hg, hc⟩ := HCE.out (by omega)
      have hgb := HAB.out g o rfl
      have c1 : wr.cell? ⟨g, o + j, none⟩ = some (.int .i64 (x : Int)) := by
        rw [← hc j _ (kic_get hx)]
        simp only [World.cell?, HKP.out.block g hg (by omega)]
      have HBR : Hid (Below w.heap.size w wr) := by
        refine HB1.out.trans (HKP.out.below fun k hk => ⟨?_, ?_⟩)
        · have := HSZ.out; rw [← HBW.out] at hk; omega
        · rw [← HBW.out] at hk; omega
      have HCI := Lib.hid (HIX.out wr x HBR.out hxm)
      obtain ⟨FL, hFL⟩ : ∃ FL, FL = (u.take j).filter (isF T) := ⟨_, rfl⟩
      obtain ⟨RL, hRL⟩ : ∃ RL, RL = (u.take j).filter (isR T) := ⟨_, rfl⟩
      have hF1 : FL.length ≤ j := by rw [hFL]; exact Nat.le_trans (List.length_filter_le _ _) (by simp; omega)
      have hR1 : RL.length ≤ j := by rw [hRL]; exact Nat.le_trans (List.length_filter_le _ _) (by simp; omega)
      have HFN : Hid ((u.take (j + 1)).filter (isF T) = FL ++ (if isF T x then [x] else [])) := by
        unfold Hid; rw [hts, List.filter_append, hFL]; cases e : isF T x <;> simp [e]
      have HRN : Hid ((u.take (j + 1)).filter (isR T) = RL ++ (if isR T x then [x] else [])) := by
        unfold Hid; rw [hts, List.filter_append, hRL]; cases e : isR T x <;> simp [e]
      rw [← hFL] at HO5 HMI
      rw [← hRL] at HO6
      clear hFL hRL hx hxm hts hc
      have HIF : Hid (isF T x = ((ixA T x).2 && decide (0 < (ixA T x).1))) := rfl
      have HIR : Hid (isR T x = ((ixA T x).2 && !decide (0 < (ixA T x).1))) := rfl
      have HDS : Hid (datL (fun i => (ixA T i).1) (FL ++ [x]) = (datL (fun i => (ixA T i).1) FL).put (.int .i64 (x : Int)) (.lit (.int .i64 (ixA T x).1))) := datL_snoc _ _ _
      have hqb : 0 ≤ (ixA T x).1 ∧ (ixA T x).1 < 1000000000 := ixN_bd _
      obtain ⟨q, hq⟩ : ∃ q, q = ixA T x := ⟨_, rfl⟩
      rw [← hq] at HIF HIR HDS HCI hqb
      clear hq
      obtain ⟨m, ok⟩ := q
      simp only at HIF HIR HDS hqb
      have HLR : Hid (LB ≤ wr.heap.size) := by unfold Hid; rw [HLB.out]; exact HKP.out.size
      have HD2 : Hid (∀ w2, Below wr.heap.size wr w2 → w2.ownsRow LB 3 1 u5 FL.length (kic FL) ∧ w2.ownsRow LB 3 1 u6 RL.length (kic RL) ∧ MapIn (b + 1) b j (datL (fun i => (ixA T i).1) FL) w2 ∧ Kept w1 w2 (fun k => k = b) ∧ LB ≤ w2.heap.size) := fun w2 hb =>
        ⟨(Kept.of_below hb (fun _ => False)).own HO5.out (fun _ _ h => h), (Kept.of_below hb (fun _ => False)).own HO6.out (fun _ _ h => h), HMI.out.below hb, HKP.out.then_ (Kept.of_below hb _) (fun _ _ e => e), Nat.le_trans HLR.out hb.size⟩
      cases ok
      · have e1 : Hid ((u.take (j + 1)).filter (isF T) = FL) := by unfold Hid; rw [HFN.out, HIF.out]; simp
        have e2 : Hid ((u.take (j + 1)).filter (isR T) = RL) := by unfold Hid; rw [HRN.out, HIR.out]; simp
        go_wp2_with (go_at_call 74; refine (HCI.out).mono ?_; rintro e w2 ⟨rfl, hb⟩; have HB2 := Lib.hid hb; clear hb)
        obtain ⟨p5, p6, pm, pk, _⟩ := HD2.out w2 HB2.out
        go_roundw
        case rel =>
          refine ⟨j + 1, by omega, by go_num, ?_, ?_, HSP.out, ?_, pk⟩
          · rw [e1.out]; exact p5
          · rw [e2.out]; exact p6
          · rw [e1.out]; exact ⟨pm.1, pm.2.1.mono (by omega), pm.2.2⟩
        case measure => simp [intOf]; omega
      by_cases hm0 : 0 < m
      · have e1 : Hid ((u.take (j + 1)).filter (isF T) = FL ++ [x]) := by unfold Hid; rw [HFN.out, HIF.out]; simp [hm0]
        have e2 : Hid ((u.take (j + 1)).filter (isR T) = RL) := by unfold Hid; rw [HRN.out, HIR.out]; simp [hm0]
        go_wp2_with (first
          | (go_at_call 74; refine (HCI.out).mono ?_; rintro e w2 ⟨rfl, hb⟩; have HB2 := Lib.hid hb; obtain ⟨p5, p6, pm, pk, hL2⟩ := HD2.out w2 hb; have HP5 := Lib.hid p5; have HP6 := Lib.hid p6; have HPM := Lib.hid pm; have HPK := Lib.hid pk; clear hb p5 p6 pm pk))
        obtain ⟨i0, hi0, hz0, hz1, hz2⟩ := info_parts inf_I
        have hLBb : Hid (b + 2 ≤ LB) := by unfold Hid; have := HSZ.out; have := HLB.out; omega
        have HKEY := Lib.hid (keyN hx4)
        have HWF : Hid ((Lit.int .i64 m).wf = true) := WalkArith.wf_i64 ⟨by omega, by omega⟩
        have HU5 : Hid (∀ k, u5.ownBlock = some k → LB ≤ k) := fun k hk => (own_lt HP5.out hk).1
        have HM2 : Hid (∀ W', Below w2.heap.size w2 W' → MapIn (b + 1) b j (datL (fun i => (ixA T i).1) FL) W') := fun W' hb => HPM.out.below hb
        have HP5d : Hid (w2.drew.ownsRow LB 3 1 u5 FL.length (kic FL)) := HP5.out
        have HB3 : Hid (Below w2.heap.size w2 w2.drew) := bl_drew (Below.refl _ _)
        have hL3 : LB ≤ w2.drew.heap.size := hL2
        have HC2 : Hid (∀ W', Below w2.heap.size w2 W' → W'.cell? ⟨b + 1, 0, none⟩ = some (.map (some b))) := fun W' hb => (HM2.out W' hb).1
        go_region_held3 (fun w' => w'.cell? ⟨b + 1, 0, none⟩ = some (.map (some b)))
          (first | with_reducible exact HC2.out _ (Below.refl _ _) | with_reducible exact HC2.out _ (bl_drew (Below.refl _ _)) | with_reducible exact HC2.out _ (bl_alloc (bl_drew (Below.refl _ _)) _) | with_reducible exact HC2.out _ (bl_alloc HB3.out _) | with_reducible exact HC6.out | with_reducible exact HC7.out)
          ((refine step_append_lies _ (by rfl) _ _ _ (by rfl) LB 3 i0 _ 1 8 Tryd.underlying75 hi0 hz0 hz1 hz2 rfl (by omega) u5 FL.length (kic FL) (by rfl) (HP5d.out.alloc _) ⟨w2.drew.heap.size, 0, none⟩ 1 1 [.int .i64 (x : Int)] (by rfl) (by rfl) (World.news_of_block (cs := #[.int .i64 (x : Int)]) (t := 3) (fr := (0, 0)) (bk_new' w2.drew 3 #[.int .i64 (x : Int)] rfl)) (by simp [Value.oneCell']) (by omega) (by unfold maxLen; omega) (by omega) (by simp; omega) (w2.drew.heap.size + 1) (by simp) ?_; intro gg cap6 w6 hown6 hgrow6 hat6 hlt6; have HO6 := Lib.hid hown6; have HG6 := Lib.hid hgrow6; have HAT := Lib.hid hat6; have HLT := Lib.hid hlt6; have HM6 : Hid (MapIn (b + 1) b j (datL (fun i => (ixA T i).1) FL) w6) := ((HM2.out _ (bl_alloc HB3.out _)).kept (Kept.grown hgrow6 (fun k => u5.ownBlock = some k) (fun k e => e)) (fun e => by have := HU5.out _ e; have := hLBb.out; omega) (fun e => by have := HU5.out _ e; have := hLBb.out; omega)); obtain ⟨w7, hrun7, hown7, hgrow7⟩ := HM6.out.2.1.update keyI Tryd.underlying131 (by unfold maxLen; omega) HKEY.out (plainElem_int Tryd.underlying3 HWF.out); have HO7 := Lib.hid hown7; have HG7 := Lib.hid hgrow7; have HM7 := Lib.hid (HM6.out.stored hgrow7 hown7); have HC6 : Hid (w6.cell? ⟨b + 1, 0, none⟩ = some (.map (some b))) := HM6.out.1; have HC7 : Hid (w7.cell? ⟨b + 1, 0, none⟩ = some (.map (some b))) := HM7.out.1; clear hown6 hgrow6 hat6 hlt6 hown7 hgrow7))
        have hgg : LB ≤ gg ∧ (∀ k, u6.ownBlock = some k → k ≠ gg) := by
          rcases HAT.out with e | e
          · exact ⟨HU5.out _ e, fun k hk h => HSP.out gg e (h ▸ hk)⟩
          · have e' : gg = w2.heap.size + 1 := e
            exact ⟨by omega, fun k hk h => by have := (own_lt HP6.out hk).2; omega⟩
        have hbL := hLBb.out
        have k6 : Kept w2 w6 (fun k => u5.ownBlock = some k) := (Kept.of_below (bl_alloc (bl_drew (Below.refl _ _)) _) _).then_ (Kept.grown HG6.out (fun k => u5.ownBlock = some k) (fun k e => e)) (fun k _ e => e)
        have k7 : Kept w2 w7 (fun k => u5.ownBlock = some k ∨ k = b) := (k6.mono (fun k _ e => .inl e)).then_ (Kept.grown HG7.out (fun k => k = b) (fun k e => (Option.some.inj e).symm)) (fun k _ e => .inr e)
        have HGG := Lib.hid hgg
        have HK7 := Lib.hid k7
        clear hgg k6 k7
        go_wp2_with fail
        go_roundw
        case rel =>
          refine ⟨j + 1, by omega, by go_num, ?_, ?_, ?_, ?_, ?_⟩
          · rw [e1.out, List.length_append, kic_app]
            exact (Kept.grown HG7.out (fun k => k = b) (fun k e => (Option.some.inj e).symm)).own HO6.out (fun k hk e => by injection hk with hk; have hk2 : gg = k := hk; have := HGG.out.1; omega)
          · rw [e2.out]
            exact HK7.out.own HP6.out (fun k hk e => by
              rcases e with e | e
              · exact HSP.out k e hk
              · have := (own_lt HP6.out hk).1; omega)
          · intro k hk hk2
            injection hk with hk
            exact HGG.out.2 k hk2 hk.symm
          · rw [e1.out, HDS.out]; exact HM7.out
          · exact HPK.out.then_ HK7.out (fun k hk e => by
              rcases e with e | e
              · have := HU5.out _ e; have := HLB.out; omega
              · exact e)
        case measure => simp [intOf]; omega
      · have e1 : Hid ((u.take (j + 1)).filter (isF T) = FL) := by unfold Hid; rw [HFN.out, HIF.out]; simp [hm0]
        have e2 : Hid ((u.take (j + 1)).filter (isR T) = RL ++ [x]) := by unfold Hid; rw [HRN.out, HIR.out]; simp [hm0]
        go_wp2_with (first
          | (go_at_call 74; refine (HCI.out).mono ?_; rintro e w2 ⟨rfl, hb⟩; have HB2 := Lib.hid hb; obtain ⟨p5, p6, pm, pk, hL2⟩ := HD2.out w2 hb; have HP5 := Lib.hid p5; have HP6 := Lib.hid p6; have HPM := Lib.hid pm; have HPK := Lib.hid pk; clear hb p5 p6 pm pk)
          | (at_builtin; refine wp_push rfl _ _ 75 rfl LB 3 Tryd.underlying75 inf_I rfl (by decide) w2 u6 RL.length (kic RL) [.int .i64 (x : Int)] rfl rfl rfl HP6.out rfl (by simp [Value.oneCell']) (by omega) (by omega) hL2 ?_; intro v6 w6 hpush; have HPU := Lib.hid hpush; clear hpush))
        go_roundw
        case rel =>
          refine ⟨j + 1, by omega, by go_num, ?_, ?_, ?_, ?_, ?_⟩
          · rw [e1.out]; exact HPU.out.other HP5.out HSP.out.symm
          · rw [e2.out, List.length_append, kic_app]; exact HPU.out.own
          · exact (HPU.out.sep HP5.out HSP.out.symm).symm
          · rw [e1.out]
            have h6 : ∀ k, u6.ownBlock = some k → LB ≤ k := fun k hk => (own_lt HP6.out hk).1
            have := HSZ.out; have := HLB.out
            have hq := HPM.out.kept (Kept.grown HPU.out.grown (fun k => u6.ownBlock = some k) (fun k e => e)) (fun e => by have := h6 _ e; omega) (fun e => by have := h6 _ e; omega)
            exact ⟨hq.1, hq.2.1.mono (by omega), hq.2.2⟩
          · exact HPK.out.then_ (Kept.grown HPU.out.grown (fun k => u6.ownBlock = some k) (fun k e => e)) (fun k hk e => by have := (own_lt HP6.out e).1; have := HLB.out; omega)
        case measure => simp [intOf]; omega
end Go.Proofs.YtimlmekgapdkiaaDoor
