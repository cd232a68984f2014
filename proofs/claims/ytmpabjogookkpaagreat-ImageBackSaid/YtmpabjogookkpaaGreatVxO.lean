/-
  The operations of an emitted code, told as a known call.
  No condition.
-/
import Derived.Test.YtmpabjogookkpaaGreatVxG
import Derived.Test.YtmpabjogookkpaaGreatRows
set_option linter.unusedVariables false
namespace Go.Vex
open Go.Proofs
open Go.ChangeMaps (setBlock)
set_option maxRecDepth 100000
theorem Tryz.tyS : tyA Tryz.prog 45 = some (false, 1) := by kernel_rfl
theorem Tryz.tyL : tyA Tryz.prog 44 = some (false, 1) := by kernel_rfl
theorem Tryz.tyM : tyA Tryz.prog 156 = some (false, 1) := by kernel_rfl
theorem Tryz.tyI : tyA Tryz.prog 3 = some (false, 1) := by kernel_rfl
theorem Tryz.fz0 : fieldSz Tryz.prog 158 0 = some (0, 1) := by kernel_rfl
theorem Tryz.fz1 : fieldSz Tryz.prog 158 1 = some (1, 1) := by kernel_rfl
theorem Tryz.fz2 : fieldSz Tryz.prog 158 2 = some (2, 1) := by kernel_rfl
theorem Tryz.fz5 : fieldSz Tryz.prog 98 5 = some (5, 1) := by kernel_rfl
theorem Tryz.ixL : ixKind Tryz.prog 44 = some (.slc 1) := by kernel_rfl
theorem Tryz.ixS : ixKind Tryz.prog 45 = some (.slc 6) := by kernel_rfl
theorem Tryz.elS : elemOf Tryz.prog 45 = some 98 := by kernel_rfl
theorem Tryz.unS : Tryz.prog.underlying 45 = some (.slice 98) := elemOf_inv Tryz.elS
theorem Tryz.szE : size Tryz.prog 98 = some 6 := by kernel_rfl
theorem Tryz.szW : size Tryz.prog 2 = some 1 := by kernel_rfl
theorem Tryz.inE : ((Tryz.prog.info? 98).map fun i => Nat.beq i.size 6 && Nat.ble i.bytes 65536) = some true := by kernel_rfl
theorem Tryz.zeE : ((zeroCells Tryz.prog 98).map fun z => Nat.beq z.length 6) = some true := by kernel_rfl
theorem Tryz.unM : ∃ k e, Tryz.prog.underlying 156 = some (.map k e) := ⟨_, _, Tryz.underlying156⟩
theorem ops_calls {p : AV} {H : Hp} {k : KR} (h : orcOps [p] H = some k) {ρ0 : Rho} {w0 : World} {us : List Value} (hall : All2 (RV ρ0) [p] us) (hr0 : Rep ρ0 H w0) : Calls Tryz.prog 60 us.toArray w0 (KPost ρ0 H w0 k) := by
  obtain ⟨q, hq, h⟩ := ob_some (x := p.asPtr) h
  obtain ⟨opsV, hops, h⟩ := ob_some h
  obtain ⟨labV, hlab, h⟩ := ob_some h
  obtain ⟨jmpV, hjmp, h⟩ := ob_some h
  obtain ⟨so, hso, h⟩ := ob_some h
  obtain ⟨sl, hsl, h⟩ := ob_some h
  obtain ⟨bm, hbm, h⟩ := ob_some h
  obtain ⟨om, hom, h⟩ := ob_some h
  obtain ⟨mq, hmq, h⟩ := ob_some h
  obtain ⟨js, hjs, h⟩ := ob_some h
  obtain ⟨hok, h⟩ := iteB_some h
  obtain ⟨hol, h⟩ := iteB_some h
  obtain ⟨hnx, h⟩ := iteB_some h
  obtain ⟨c, hc, h⟩ := ob_some h
  obtain ⟨ls, hls, h⟩ := ob_some h
  obtain ⟨oc, hoc, h⟩ := ob_some h
  obtain ⟨oe, hoe, h⟩ := ob_some h
  obtain ⟨H', hH', h⟩ := ob_some h
  injection h with h; subst h
  obtain ⟨pb, po⟩ := q
  obtain ⟨ob1, oo, ol⟩ := so
  obtain ⟨lb, lo, ll⟩ := sl
  obtain ⟨es, cl⟩ := mq
  have hp := asPtr_inv hq
  subst hp
  obtain ⟨oc1, hops1⟩ := slOf_inv hso
  obtain ⟨lc1, hlab1⟩ := slOf_inv hsl
  have hjmp1 := asMap_inv hbm
  subst hops1; subst hlab1; subst hjmp1
  have hom1 := asMapo_inv2 hmq
  subst hom1
  clear hq hso hsl hbm hmq
  have hops : H.load1 pb po = some (.slice ob1 oo ol oc1) := hops
  have hlab : H.load1 pb (po + 1) = some (.slice lb lo ll lc1) := hlab
  have hjmp : H.load1 pb (po + 2) = some (.map bm) := hjmp
  have hc : H.loadN ob1 oo (ol * 6) = some c := hc
  have hls : H.loadN lb lo ll = some ls := hls
  have hoe : orcJ ls ol js oc = some oe := hoe
  have hok : jsOK cl js = true := hok
  have hjs : mapO entNat es = some js := hjs
  have hol : ol ≤ 1048576 := ble_le hol
  have hnx := blt_lt hnx
  obtain ⟨hborn, hpw⟩ := jsOK_inv hok
  have hmapo : H.fn bm = .mapo es cl := Hp.fn_of_obj hom
  -- the new cells
  have hcl : c.length = ol * 6 := loadN_len hc
  obtain ⟨tc, htc, htcg⟩ := ofList_ok c (by omega)
  rw [hoc] at htc; injection htc with htc; subst htc
  have hcells0 : CellsJ js ls ol (fun i => c[i]?) (fun _ => False) c.length .any tc := by
    intro i hi
    refine ⟨c[i], ?_, .inr ⟨fun _ _ _ _ hf => hf.elim, by simp [hi]⟩⟩
    rw [htcg, if_pos hi]; simp [hi]
  obtain ⟨⟨te, rfl, hte⟩, hjl⟩ := orcJ_cells hpw js tc oe _ hoe (fun _ h => h) hcells0
  obtain ⟨hH'n, hH'f⟩ := Hp.alloc_fn hH'
  -- the frame
  obtain ⟨u0, hus, hu0⟩ : ∃ u0, us = [u0] ∧ RV ρ0 (.ptr pb po) u0 := by cases hall with | cons h1 h2 => cases h2; exact ⟨_, rfl, h1⟩
  subst hus
  refine calls_of_wp_defers Tryz.func60 rfl ?_
  generalize ha0 : ({ tmps := [u0].toArray ++ Array.replicate (Tryz.f60.ntmps - [u0].toArray.size) undef, defers := [] } : Act) = a0
  have hS0 : Sl ρ0 44 (upd (fun _ => none) 0 (.ptr pb po)) a0 := by
    subst ha0
    refine ⟨by rw [show Tryz.f60.ntmps = 44 from Tryz.ntmps60]; simp, fun t v hv => ?_⟩
    unfold upd at hv
    cases hb : Nat.beq t 0 with
    | false => rw [hb] at hv; cases hv
    | true =>
      rw [hb] at hv
      have := beq_eq hb; subst this
      have hv : some (AV.ptr pb po) = some v := hv
      injection hv with hv; subst hv
      simpa using hu0
  have hd0 : a0.defers = [] := by subst ha0; rfl
  clear ha0
  -- region 0
  refine wp_seq (wp_region ?_)
  refine step_q _ 2 .nils rfl rfl rfl (by decide) hS0 hr0 rfl rfl fun a1 hS1 hd1 _ => ?_
  -- region 1
  refine wp_seq (wp_region ?_)
  refine step_q _ 6 (.ptr pb po) rfl rfl rfl (by decide) hS1 hr0 rfl rfl fun a2 hS2 hd2 _ => ?_
  refine step_q _ 7 (.ptr pb po) rfl rfl rfl (by decide) hS2 hr0 rfl rfl fun a3 hS3 hd3 _ => ?_
  refine step_q _ 8 (.ptr pb (po + 0)) rfl rfl rfl (by decide) hS3 hr0 rfl (hop_field Tryz.fz0 rfl) fun a4 hS4 hd4 _ => ?_
  refine step_q _ 9 (.slice ob1 oo ol oc1) rfl rfl rfl (by decide) hS4 hr0 rfl (hop_load Tryz.tyS rfl hops) fun a5 hS5 hd5 _ => ?_
  refine step_q _ 10 (.int .i64 (.ofNat ol)) rfl rfl rfl (by decide) hS5 hr0 rfl (hop_len Tryz.unS rfl) fun a6 hS6 hd6 _ => ?_
  -- the new row
  obtain ⟨iE, hiE, hiE2⟩ : ∃ i, Tryz.prog.info? 98 = some i ∧ i.size = 6 ∧ i.bytes ≤ 65536 := by
    have := Tryz.inE
    cases hi : Tryz.prog.info? 98 with
    | none => rw [hi] at this; cases this
    | some i =>
      rw [hi] at this
      have this : some (Nat.beq i.size 6 && Nat.ble i.bytes 65536) = some true := this
      injection this with this
      simp only [Bool.and_eq_true] at this
      exact ⟨i, rfl, beq_eq this.1, ble_le this.2⟩
  obtain ⟨zE, hzE, hzE2⟩ : ∃ z, zeroCells Tryz.prog 98 = some z ∧ z.length = 6 := by
    have := Tryz.zeE
    cases hi : zeroCells Tryz.prog 98 with
    | none => rw [hi] at this; cases this
    | some i =>
      rw [hi] at this
      have this : some (Nat.beq i.length 6) = some true := this
      injection this with this
      exact ⟨i, rfl, beq_eq this⟩
  obtain ⟨zr, hzr, hzrl⟩ := rowOf_ok zE ol
  have hzrl : zr.length = ol * 6 := by rw [hzrl, hzE2]
  obtain ⟨tz, htz, _⟩ := ofList_ok zr (by omega)
  obtain ⟨H1, hH1⟩ := Hp.alloc_ok H (.cells zr.length .any tz) (by omega)
  obtain ⟨hH1n, hH1f⟩ := Hp.alloc_fn hH1
  refine step_v _ 11 (.slice H.next 0 ol (.fix ol)) H1 rfl rfl rfl (by decide) hS6 hr0 (hop_make Tryz.elS hiE hzE (by rw [hzE2, hiE2.1]) (by rw [hzE2]; decide) rfl hol hiE2.2 hzr htz hH1) fun ρ1 a7 w1 hr1 hext1 hS7 hd7 _ => ?_
  refine step_q _ 3 (.slice H.next 0 ol (.fix ol)) rfl rfl rfl (by decide) hS7 hr1 rfl rfl fun a8 hS8 hd8 _ => ?_
  -- region 2: the copy
  refine wp_seq (wp_region ?_)
  refine step_q _ 12 (.slice H.next 0 ol (.fix ol)) rfl rfl rfl (by decide) hS8 hr1 rfl rfl fun a9 hS9 hd9 _ => ?_
  refine step_q _ 13 (.ptr pb po) rfl rfl rfl (by decide) hS9 hr1 rfl rfl fun a10 hS10 hd10 _ => ?_
  refine step_q _ 14 (.ptr pb po) rfl rfl rfl (by decide) hS10 hr1 rfl rfl fun a11 hS11 hd11 _ => ?_
  refine step_q _ 15 (.ptr pb (po + 0)) rfl rfl rfl (by decide) hS11 hr1 rfl (hop_field Tryz.fz0 rfl) fun a12 hS12 hd12 _ => ?_
  have old1 : ∀ b, b < H.next → H1.fn b = H.fn b := fun b hb => by rw [hH1f, if_neg (by omega)]
  have lpb := load1_lt hr0 hops
  refine step_q _ 16 (.slice ob1 oo ol oc1) rfl rfl rfl (by decide) hS12 hr1 rfl (hop_load Tryz.tyS rfl ((load1_fn (old1 pb lpb)).trans hops)) fun a13 hS13 hd13 _ => ?_
  obtain ⟨H2, t2, hH2, hH2n, hH2o, hH2l, hH2g⟩ := Hp.store_ok (H := H1) (b := H.next) (i := 0) (n := zr.length) (d := .any) (t := tz) (vs := c) (by rw [hH1f, if_pos rfl]) (by omega) (by omega) (by omega)
  have lob : ol ≠ 0 → ob1 < H.next := fun hne => load1_lt hr0 (loadN_get hc (j := 0) (v := c[0]'(by omega)) (by simp))
  have hc1 : H1.loadN ob1 oo (ol * 6) = some c := by
    by_cases e : ob1 = H.next
    · exfalso
      obtain ⟨o, ho, h1⟩ := ob_some hc
      have hdead : H.fn H.next = .dead := by
        cases hfn : H.fn H.next with
        | dead => rfl
        | ro n d t => obtain ⟨_, _, _, q1, _⟩ := hr0.rd _ _ _ _ hfn; have := hr0.rho_lt q1; omega
        | _ => have := hr0.lt (b := H.next) (by rw [hfn]; simp); omega
      rw [Hp.obj_fn, e, hdead] at ho
      injection ho with ho; subst ho
      cases h1
    · exact (loadN_fn (H := H) (H' := H1) (by rw [hH1f, if_neg e])).trans hc
  refine step_v _ 17 (.int .i64 (.ofNat ol)) H2 rfl rfl rfl (by decide) hS13 hr1 (hop_copy Tryz.elS Tryz.szE rfl rfl hc1 hH2) fun ρ2 a14 w2 hr2 hext2 hS14 hd14 _ => ?_
  have old2 : ∀ b, b < H.next → H2.fn b = H.fn b := fun b hb => by rw [hH2o b (by omega), old1 b hb]
  have hcells2 : CellsJ js ls ol (fun i => c[i]?) (fun _ => False) c.length .any t2 := by
    intro i hi
    refine ⟨c[i], ?_, .inr ⟨fun _ _ _ _ hf => hf.elim, by simp [hi]⟩⟩
    rw [hH2g, if_pos ⟨Nat.zero_le _, by omega⟩]; simp [hi]
  have hzc : zr.length = c.length := by omega
  rw [hzc] at hH2l
  -- region 3: the range
  refine wp_seq (wp_seq (wp_region ?_))
  refine step_q _ 18 (.ptr pb po) rfl rfl rfl (by decide) hS14 hr2 rfl rfl fun a15 hS15 hd15 _ => ?_
  refine step_q _ 19 (.ptr pb po) rfl rfl rfl (by decide) hS15 hr2 rfl rfl fun a16 hS16 hd16 _ => ?_
  refine step_q _ 20 (.ptr pb (po + 2)) rfl rfl rfl (by decide) hS16 hr2 rfl (hop_field Tryz.fz2 rfl) fun a17 hS17 hd17 _ => ?_
  refine step_q _ 21 (.map bm) rfl rfl rfl (by decide) hS17 hr2 rfl (hop_load Tryz.tyM rfl ((load1_fn (old2 pb lpb)).trans hjmp)) fun a18 hS18 hd18 _ => ?_
  have lbm : bm < H.next := hr0.lt (by rw [hmapo]; simp)
  have hm2 : H2.fn bm = .mapo es cl := (old2 bm lbm).trans hmapo
  obtain ⟨rm, xm, hrm, hrv⟩ := RV.map_inv (hS18.rel 21 (.map bm) rfl)
  obtain ⟨ces, hces, hall2⟩ := hr2.mapAt (x := xm) hrm hm2
  obtain ⟨tk, te', hunM⟩ := Tryz.unM
  refine wpOps_w rfl rfl (range_run rfl (x := .tmp 21) hrv hunM hces) ?_
  -- the loop
  have hext02 := hext1.trans hext2
  obtain ⟨hr3, hext3⟩ := hr2.garbage (.mapIter (some rm) cl #[] cl)
  have hun3 : Un ρ2 H2 w2.heap.size := hr2.un_new
  have hext03 := hext02.trans hext3
  have hit3 : (World.new w2 (.mapIter (some rm) cl #[] cl)).heap[w2.heap.size]? = some (.mapIter (some rm) cl #[] cl) := new_get_new _ _
  have hrit : w0.heap.size ≤ w2.heap.size := hext02.size
  have hS19 : Sl ρ2 44 (upd (upd (fun _ => none) 0 (.ptr pb po)) 3 (.slice H.next 0 ol (.fix ol))) (a18.put (some 22) (.pointer (some ⟨w2.heap.size, 0, none⟩))) := by
    refine (hS18.put_any (d := 22) (by decide) _).less fun t v hv => ?_
    unfold upd at hv
    cases h3 : Nat.beq t 3 with
    | true => rw [h3] at hv; have := beq_eq h3; subst this; exact hv
    | false =>
      rw [h3] at hv
      cases h0 : Nat.beq t 0 with
      | true => rw [h0] at hv; have := beq_eq h0; subst this; exact hv
      | false => rw [h0] at hv; cases hv
  have h22 : (a18.put (some 22) (.pointer (some ⟨w2.heap.size, 0, none⟩))).tmps.getD 22 undef = .pointer (some ⟨w2.heap.size, 0, none⟩) := put_at (by rw [hS18.size]; decide)
  have hd19 : (a18.put (some 22) (.pointer (some ⟨w2.heap.size, 0, none⟩))).defers = [] := by
    rw [put_defers]; simp_all
  show ((Code.block 0 _).wp _ _ (a18.put (some 22) (.pointer (some ⟨w2.heap.size, 0, none⟩))) (World.new w2 (.mapIter (some rm) cl #[] cl)))
  generalize (a18.put (some 22) (.pointer (some ⟨w2.heap.size, 0, none⟩))) = a19 at hS19 h22 hd19
  generalize World.new w2 (.mapIter (some rm) cl #[] cl) = w3 at hr3 hext03 hit3
  generalize w2.heap.size = rit at h22 hit3 hrit hun3
  have hEnt : ∀ (ces : List MapEntry), All2 EntR js ces → (∀ x ∈ ces, x.born < cl) ∧ (ces.map (·.born)).Nodup := by
    intro ces h
    refine ⟨fun x hx => ?_, ?_⟩
    · obtain ⟨y, hy, _, _, e⟩ := h.get2 x hx
      rw [e]; exact hborn y hy
    · rw [born_map h]
      exact List.Pairwise.map _ (fun _ _ h => h.2) hpw
  have hI0 : OpsI ρ0 H w0 js ls ol c 44 (upd (upd (fun _ => none) 0 (.ptr pb po)) 3 (.slice H.next 0 ol (.fix ol))) H2 H.next rit rm bm xm cl 22 #[] ρ2 H2 a19 w3 :=
    ⟨hS19, h22, hd19, hr3, hext03, rfl, fun _ _ => rfl, ⟨t2, hH2l, hcells2.iff (by simp)⟩, hit3, hun3, hrm⟩
  clear hS19 h22 hd19 hr3 hext03 hit3 hun3 hrm hS18 hd18 hS17 hd17 hS16 hd16 hS15 hd15 hS14 hd14 hr2 hext2 hS13 hd13 hS12 hd12 hS11 hd11 hS10 hd10 hS9 hd9 hS8 hd8 hS7 hd7 hr1 hext1 hS6 hd6 hS5 hd5 hS4 hd4 hS3 hd3 hS2 hd2 hS1 hd1 hS0 hd0 hext02 hext3 hall2 hces
  refine wp_block ?_
  generalize hQ : Exit.inBlock 0 _ = Q
  refine LoopWp.wp ?_
  refine (?_ : ∀ (m : Nat) (seen : Array Nat) (ρ : Rho) (Hc : Hp) (a : Act) (w : World), (js.filter fun y => !seen.contains y.2.2).length = m →
      OpsI ρ0 H w0 js ls ol c 44 (upd (upd (fun _ => none) 0 (.ptr pb po)) 3 (.slice H.next 0 ol (.fix ol))) H2 H.next rit rm bm xm cl 22 seen ρ Hc a w → LoopWp Tryz.prog _ Q a w) _ #[] ρ2 H2 a19 w3 rfl hI0
  · intro m
    refine Nat.strongRecOn m fun m ih => ?_
    intro seen ρ Hc a w hm hI
    refine LoopWp.unroll ?_
    generalize hL : LoopWp Tryz.prog _ Q = L
    obtain ⟨ces, hces, hall2⟩ := hI.rep.mapAt (x := xm) hI.map ((hI.other bm (by omega)).trans hm2)
    have hE := ents_rel hjs hall2
    obtain ⟨hold, hnd⟩ := hEnt _ hE
    refine wp_seq (wp_region ?_)
    rcases run_next_at (P := Tryz.prog) w 0 rit rm cl cl seen ces cl hI.at_ hces hold (Nat.le_refl _) with ⟨h0, hrun⟩ | ⟨e, he, w1, hal, hrun⟩
    · -- nothing is left
      refine wpOps_w rfl rfl (next_run (x := .tmp 22) rfl hI.it hrun) ?_
      have hSa := hI.sl.put (d := 23) (v := .tup [.bool false]) (u := .tuple #[.bool false]) (by decide) (.tup (vs := [.bool false]) (.cons (.bool false) .nil))
      refine step_q _ 24 (.bool false) rfl rfl rfl (by decide) hSa hI.rep rfl rfl fun b1 hSb hdb hsb => ?_
      refine wp_seq (wp_cond_false (hSb.rel 24 (.bool false) rfl).bool_inv (wp_exit ?_))
      subst hQ
      refine then_exit (then_exit (inBlock_hit ?_))
      have hSb := (hSb.drop rfl).drop rfl
      refine wp_seq (wp_region ?_)
      refine step_q _ 43 (.slice H.next 0 ol (.fix ol)) rfl rfl rfl (by decide) hSb hI.rep rfl rfl fun b2 hS2 hdb2 _ => ?_
      refine step_q _ 2 (.slice H.next 0 ol (.fix ol)) rfl rfl rfl (by decide) hS2 hI.rep rfl rfl fun b3 hS3 hdb3 _ => ?_
      refine wp_ret ?_
      have hdf : b3.defers = [] := hdb3.trans (hdb2.trans (hdb.trans (put_defers.trans hI.df)))
      show Leaves _ _ _ _ b3.defers _ _
      rw [hdf]
      obtain ⟨tt, htt, htc2⟩ := hI.cell
      have hall : ∀ x ∈ js, x.2.2 ∈ seen := by
        intro x hx
        obtain ⟨m, hm, _, _, e⟩ := hE.get1 x hx
        have := all_seen ces seen h0 m hm
        rw [e] at this
        simpa using this
      have hne : ∀ b, b ≠ H.next → H'.fn b = Hc.fn b := fun b hb => by rw [hH'f, if_neg hb, hI.other b hb, hH2o b hb, hH1f, if_neg hb]
      have hnx : H'.next = Hc.next := by rw [hH'n, hI.next, hH2n, hH1n]
      have hrep : Rep ρ H' w := hI.rep.swap hnx hne htt (by rw [hH'f, if_pos rfl]) fun i hi => by
        obtain ⟨x, q1, q2⟩ := htc2 i hi
        obtain ⟨y, r1, r2⟩ := (hte.iff (S' := fun b => b ∈ seen) (fun x hx => by simp only [false_or]; exact ⟨fun _ => hall x hx, fun _ => ⟨x, hx, rfl⟩⟩)) i hi
        rw [q1, r1, q2.fn hpw r2]
      have hext : Ext ρ0 H w0 ρ H' w := hI.ext.swap hnx (fun b hb => by
        by_cases e : b = H.next
        · rw [e, htt]; simp
        · rw [← hne b e]; exact hb
        ) (fun b n d t hb => by
        by_cases e : b = H.next
        · subst e; rw [hH'f, if_pos rfl] at hb; cases hb
        · rw [← hne b e]; exact hb)
      refine ⟨b3.tmps.getD 2 undef, ?_, ρ, _, rfl, hS3.rel 2 _ rfl, hrep, hext⟩
      exact results_one rfl _ _
    · -- a round
      obtain ⟨hem, hes⟩ := mem_left he
      obtain ⟨x, hx, hek, hev, heb⟩ := hE.get2 e hem
      have hxs : x.2.2 ∉ seen := by rw [← heb]; simpa using hes
      have hr1 : Rep ρ Hc w1 := by rcases hal with rfl | rfl <;> first | exact hI.rep | exact Rep.same (w := w) (w' := w.drew) ⟨rfl, rfl, rfl⟩ hI.rep
      have hx1 : Ext ρ0 H w0 ρ Hc w1 := by rcases hal with rfl | rfl <;> first | exact hI.ext | exact hI.ext.trans (Ext.of_same (w := w) (w' := w.drew) ⟨rfl, rfl, rfl⟩)
      have hit1 : rit < w1.heap.size := by
        have := (Array.getElem?_eq_some_iff.1 hI.at_).1
        rcases hal with rfl | rfl <;> exact this
      have hces1 : w1.heap[rm]? = some (.map ces cl) := by rcases hal with rfl | rfl <;> exact hces
      have hmr : rm ≠ rit := hI.un bm rm xm (by rw [hI.other bm (by omega), hm2]; simp) hI.map
      have hit9 : w1.heap[rit]? = w.heap[rit]? := by rcases hal with rfl | rfl <;> rfl
      have hr2 := hr1.setU hI.un (fun c el fz e => by rw [hit9, hI.at_] at e; cases e) (.mapIter (some rm) cl (seen.push e.born) cl)
      have hx2 := hx1.setU hrit (.mapIter (some rm) cl (seen.push e.born) cl)
      have hat2 := set_get (w := w1) (o := .mapIter (some rm) cl (seen.push e.born) cl) hit1
      have hces2 := (set_get_ne (w := w1) (o := .mapIter (some rm) cl (seen.push e.born) cl) hmr).trans hces1
      refine wpOps_w rfl rfl (next_run (x := .tmp 22) rfl hI.it hrun) ?_
      generalize setBlock w1 rit (.mapIter (some rm) cl (seen.push e.born) cl) = w2 at hr2 hx2 hat2 hces2
      have hSa := hI.sl.put (d := 23) (v := .tup [.bool true, .int .i64 (x.1 : Int), .int .i64 (x.2.1 : Int)]) (u := .tuple #[.bool true, e.key, e.val]) (by decide)
        (.tup (vs := [.bool true, e.key, e.val]) (.cons (.bool true) (.cons (by rw [hek]; exact .int _ _) (.cons (by rw [hev]; exact .int _ _) .nil))))
      have hKa : Kp 22 _ _ := Kp.put (d := 23) (v := .tuple #[.bool true, e.key, e.val]) ⟨hI.it, hI.df⟩ (by decide)
      refine step_qk _ 24 (.bool true) rfl rfl rfl (by decide) (by decide) hSa hKa hr2 rfl rfl fun b1 hS1 hK1 => ?_
      refine wp_seq (wp_cond_true (hS1.rel 24 (.bool true) rfl).bool_inv (wp_skip ?_))
      refine wp_block (wp_seq (wp_region ?_))
      refine wpOps_w rfl rfl (entry_run (x := .tmp 22) rfl hK1.it (run_entry_at w2 rit rm cl seen ces cl e hat2 hces2 hem hnd)) ?_
      have hS2 := hS1.put (d := 25) (v := .tup [.int .i64 (x.1 : Int), .int .i64 (x.2.1 : Int)]) (u := .tuple #[e.key, e.val]) (by decide)
        (.tup (vs := [e.key, e.val]) (.cons (by rw [hek]; exact .int _ _) (.cons (by rw [hev]; exact .int _ _) .nil)))
      have hK2 := hK1.put (d := 25) (v := .tuple #[e.key, e.val]) (by decide)
      refine step_qk _ 26 (.int .i64 (x.1 : Int)) rfl rfl rfl (by decide) (by decide) hS2 hK2 hr2 rfl rfl fun b3 hS3 hK3 => ?_
      refine step_qk _ 27 (.int .i64 (x.2.1 : Int)) rfl rfl rfl (by decide) (by decide) hS3 hK3 hr2 rfl rfl fun b4 hS4 hK4 => ?_
      refine step_qk _ 4 (.int .i64 (x.1 : Int)) rfl rfl rfl (by decide) (by decide) hS4 hK4 hr2 rfl rfl fun b5 hS5 hK5 => ?_
      refine step_qk _ 5 (.int .i64 (x.2.1 : Int)) rfl rfl rfl (by decide) (by decide) hS5 hK5 hr2 rfl rfl fun b6 hS6 hK6 => ?_
      refine wp_seq (wp_region ?_)
      refine step_qk _ 28 (.int .i64 (x.1 : Int)) rfl rfl rfl (by decide) (by decide) hS6 hK6 hr2 rfl rfl fun b7 hS7 hK7 => ?_
      refine step_qk _ 29 (.slice H.next 0 ol (.fix ol)) rfl rfl rfl (by decide) (by decide) hS7 hK7 hr2 rfl rfl fun b8 hS8 hK8 => ?_
      refine step_qk _ 30 (.int .i64 (.ofNat ol)) rfl rfl rfl (by decide) (by decide) hS8 hK8 hr2 rfl (hop_len Tryz.unS rfl) fun b9 hS9 hK9 => ?_
      refine step_qk _ 31 (.bool (intLt (x.1 : Int) (.ofNat ol))) rfl rfl rfl (by decide) (by decide) hS9 hK9 hr2 rfl rfl fun b10 hS10 hK10 => ?_
      have hlt := filter_push hx hxs
      rw [← heb] at hlt
      have hval := (hS10.rel 31 _ rfl).bool_inv
      by_cases hxl : x.1 < ol
      · have : intLt (x.1 : Int) (.ofNat ol) = true := by rw [intLt_iff]; simpa using hxl
        rw [this] at hval
        refine wp_cond_true hval (wp_region ?_)
        clear hval
        obtain ⟨hx6, qk, qm, hlsx⟩ := hjl x hx hxl
        have hlx : x.2.1 < ll := by have := lt_of_get hlsx; rw [loadN_len hls] at this; exact this
        have hld : H.load1 lb (lo + x.2.1) = some (.int qk qm) := loadN_get hls hlsx
        have llb := load1_lt hr0 hld
        have oldc : ∀ b, b < H.next → Hc.fn b = H.fn b := fun b hb => (hI.other b (by omega)).trans (old2 b hb)
        obtain ⟨tt, htt, htc2⟩ := hI.cell
        obtain ⟨Hd, td, hHd, hHdn, hHdo, hHdl, hHdg⟩ := Hp.store_ok (H := Hc) (b := H.next) (i := 0 + x.1 * 6 + 5) (n := c.length) (d := .any) (t := tt) (vs := [.int qk qm]) htt (by simp; omega) (by omega) (by omega)
        refine step_qk _ 32 (.slice H.next 0 ol (.fix ol)) rfl rfl rfl (by decide) (by decide) hS10 hK10 hr2 rfl rfl fun b11 hS11 hK11 => ?_
        refine step_qk _ 33 (.int .i64 (x.1 : Int)) rfl rfl rfl (by decide) (by decide) hS11 hK11 hr2 rfl rfl fun b12 hS12 hK12 => ?_
        refine step_qk _ 34 (.ptr pb po) rfl rfl rfl (by decide) (by decide) hS12 hK12 hr2 rfl rfl fun b13 hS13 hK13 => ?_
        refine step_qk _ 35 (.ptr pb po) rfl rfl rfl (by decide) (by decide) hS13 hK13 hr2 rfl rfl fun b14 hS14 hK14 => ?_
        refine step_qk _ 36 (.ptr pb (po + 1)) rfl rfl rfl (by decide) (by decide) hS14 hK14 hr2 rfl (hop_field Tryz.fz1 rfl) fun b15 hS15 hK15 => ?_
        refine step_qk _ 37 (.slice lb lo ll lc1) rfl rfl rfl (by decide) (by decide) hS15 hK15 hr2 rfl (hop_load Tryz.tyL rfl ((load1_fn (oldc pb lpb)).trans hlab)) fun b16 hS16 hK16 => ?_
        refine step_qk _ 38 (.int .i64 (x.2.1 : Int)) rfl rfl rfl (by decide) (by decide) hS16 hK16 hr2 rfl rfl fun b17 hS17 hK17 => ?_
        refine step_qk _ 39 (.ptr lb (lo + x.2.1 * 1)) rfl rfl rfl (by decide) (by decide) hS17 hK17 hr2 rfl (hop_index Tryz.ixL rfl rfl hlx) fun b18 hS18 hK18 => ?_
        refine step_qk _ 40 (.int qk qm) rfl rfl rfl (by decide) (by decide) hS18 hK18 hr2 rfl (hop_load Tryz.tyI rfl (by rw [Nat.mul_one]; exact (load1_fn (oldc lb llb)).trans hld)) fun b19 hS19 hK19 => ?_
        refine step_qk _ 41 (.ptr H.next (0 + x.1 * 6)) rfl rfl rfl (by decide) (by decide) hS19 hK19 hr2 rfl (hop_index Tryz.ixS rfl rfl hxl) fun b20 hS20 hK20 => ?_
        refine step_qk _ 42 (.ptr H.next (0 + x.1 * 6 + 5)) rfl rfl rfl (by decide) (by decide) hS20 hK20 hr2 rfl (hop_field Tryz.fz5 rfl) fun b21 hS21 hK21 => ?_
        refine step_s _ Hd rfl rfl rfl hS21 hr2 (hop_store Tryz.szW rfl rfl rfl hHd) fun ρ' w3' hr3 hx3 hS22 => ?_
        show L _ _
        rw [← hL]
        have hun3 := hx3.frame rit (Array.getElem?_eq_some_iff.1 hat2).1 hI.un
        refine ih _ (by rw [← hm]; exact hlt) (seen.push e.born) ρ' Hd b21 w3' rfl
          ⟨((((((((((((((((((((hS22.drop rfl).drop rfl).drop rfl).drop rfl).drop rfl).drop rfl).drop rfl).drop rfl).drop rfl).drop rfl).drop rfl).drop rfl).drop rfl).drop rfl).drop rfl).drop rfl).drop rfl).drop rfl).drop rfl).drop rfl).drop rfl |>.drop rfl, hK21.it, hK21.df, hr3, hx2.trans hx3, hHdn.trans hI.next, fun b hb => (hHdo b hb).trans (hI.other b hb), ⟨td, hHdl, ?_⟩, hun3.1.trans hat2, hun3.2, hx3.sub _ _ hI.map⟩
        intro i hi
        obtain ⟨y, q1, q2⟩ := htc2 i hi
        refine ⟨_, ?_, (q2.store hpw hx hxl hlsx).iffS (S' := fun b => b ∈ seen.push e.born) fun z hz => ?_⟩
        · rw [hHdg]
          by_cases ei : i = x.1 * 6 + 5
          · rw [if_pos ei, if_pos (by simp; omega)]
            subst ei; simp
          · rw [if_neg ei, if_neg (by simp; omega)]; exact q1
        · simp [heb]
      · have : intLt (x.1 : Int) (.ofNat ol) = false := by rw [intLt_iff]; simpa using hxl
        rw [this] at hval
        refine wp_cond_false hval (wp_skip ?_)
        show L _ _
        rw [← hL]
        obtain ⟨tt, htt, htc2⟩ := hI.cell
        refine ih _ (by rw [← hm]; exact hlt) (seen.push e.born) ρ Hc b10 w2 rfl
          ⟨(((((((((((hS10.drop rfl).drop rfl).drop rfl).drop rfl).drop rfl).drop rfl).drop rfl).drop rfl).drop rfl).drop rfl).drop rfl), hK10.it, hK10.df, hr2, hx2, hI.next, hI.other, ⟨tt, htt, ?_⟩, hat2, hI.un, hI.map⟩
        intro i hi
        obtain ⟨y, q1, q2⟩ := htc2 i hi
        refine ⟨_, q1, (q2.skip hpw hx hxl).iffS (S' := fun b => b ∈ seen.push e.born) fun z hz => ?_⟩
        simp [heb]
end Go.Vex
