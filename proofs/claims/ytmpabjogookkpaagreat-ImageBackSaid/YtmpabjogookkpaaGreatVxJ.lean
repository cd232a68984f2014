/-
  Walks by hand with contracts, second part.
  No condition.
-/
import Derived.Test.YtmpabjogookkpaaGreatVxI
set_option linter.unusedVariables false
namespace Go.Vex
variable {P : Program} {ρ ρ0 : Rho} {H H0 : Hp} {w w0 : World}
section
variable {n : Nat} {Wr : Nat → Prop} {Φ : List (Nat × List AV)} {F : SlF} {a : Act} {ops : Array Oper} {Q : Exit → Act → World → Prop} {i : Nat} {rest : List Nat}
theorem Sx.nodup (h : Sx P ρ0 H0 w0 n Wr Φ F ρ H a w) : (Φ.map (·.1)).Nodup := by
  rw [List.nodup_iff_pairwise_ne, List.pairwise_iff_getElem]
  intro j k hj hk hlt e
  rw [List.length_map] at hj hk
  rw [List.getElem_map, List.getElem_map] at e
  have := h.ds j k Φ[j].1 Φ[j].2 Φ[k].2 (List.getElem?_eq_getElem hj) (by rw [e]; exact List.getElem?_eq_getElem hk)
  omega
/-- Some of the blocks, in such an order. -/
theorem Sx.some (h : Sx P ρ0 H0 w0 n Wr Φ F ρ H a w) (Φ' : List (Nat × List AV)) (hs : ∀ x ∈ Φ', x ∈ Φ) (hd : (Φ'.map (·.1)).Nodup) : Sx P ρ0 H0 w0 n Wr Φ' F ρ H a w := by
  refine ⟨h.sl, h.rep, h.ext, h.df, h.kp, fun k b cs hk => ?_, fun j k b c1 c2 hj hk => ?_⟩
  · obtain ⟨i, hi⟩ := List.mem_iff_getElem?.1 (hs _ (List.mem_of_getElem? hk))
    exact h.hp i b cs hi
  · obtain ⟨h1, e1⟩ := List.getElem?_eq_some_iff.1 hj
    obtain ⟨h2, e2⟩ := List.getElem?_eq_some_iff.1 hk
    rw [List.nodup_iff_pairwise_ne, List.pairwise_iff_getElem] at hd
    have hd' : ∀ (p q : Nat) (hp : p < Φ'.length) (hq : q < Φ'.length), p < q → Φ'[p].1 ≠ Φ'[q].1 := fun p q hp hq hpq => by
      have := hd p q (by simpa using hp) (by simpa using hq) hpq
      simpa using this
    rcases Nat.lt_trichotomy j k with hl | rfl | hl
    · exact absurd (by rw [e1, e2]) (hd' j k h1 h2 hl)
    · rfl
    · exact absurd (by rw [e1, e2]) (hd' k j h2 h1 hl)
theorem Sx.perm (h : Sx P ρ0 H0 w0 n Wr Φ F ρ H a w) {Φ' : List (Nat × List AV)} (hp : Φ.Perm Φ') : Sx P ρ0 H0 w0 n Wr Φ' F ρ H a w :=
  h.some Φ' (fun x hx => hp.mem_iff.2 hx) ((hp.map _).nodup h.nodup)
theorem Sx.subl (h : Sx P ρ0 H0 w0 n Wr Φ F ρ H a w) {Φ' : List (Nat × List AV)} (hp : Φ'.Sublist Φ) : Sx P ρ0 H0 w0 n Wr Φ' F ρ H a w :=
  h.some Φ' (fun x hx => hp.subset hx) (h.nodup.sublist (hp.map _))
/-- The last block to the front. -/
theorem Sx.front {x : Nat × List AV} (h : Sx P ρ0 H0 w0 n Wr (Φ ++ [x]) F ρ H a w) : Sx P ρ0 H0 w0 n Wr (x :: Φ) F ρ H a w := h.perm List.perm_append_comm
theorem Sx.left {Ψ : List (Nat × List AV)} (h : Sx P ρ0 H0 w0 n Wr (Φ ++ Ψ) F ρ H a w) : Sx P ρ0 H0 w0 n Wr Φ F ρ H a w := h.subl (List.sublist_append_left _ _)
theorem Sx.right {Ψ : List (Nat × List AV)} (h : Sx P ρ0 H0 w0 n Wr (Φ ++ Ψ) F ρ H a w) : Sx P ρ0 H0 w0 n Wr Ψ F ρ H a w := h.subl (List.sublist_append_right _ _)
/-- A row that grows: nil, or a block of the walk's own. -/
def Row (sz : Nat) (V : AV) (Φ : List (Nat × List AV)) (len : Nat) (cs : List AV) : Prop := (V = .nils ∧ Φ = [] ∧ cs = [] ∧ len = 0) ∨ ∃ b, V = .slice b 0 len (.opn sz) ∧ Φ = [(b, cs)] ∧ cs.length = len * sz
theorem sx_appR (o : Oper) (d : Nat) (m len : Nat) (cs new : List AV) {t el t2 : TypeId} {d2 : TypeDesc} {x y : Operand} {V B : AV} {sz : Nat} {Φr Ψ : List (Nat × List AV)} (ho : ops[i]? = .some o) (hg : o.guard = none) (hd : o.dst = .some d) (hdn : d < n) (h : Sx P ρ0 H0 w0 n Wr (Φr ++ Ψ) F ρ H a w)
    (hR : Row sz V Φr len cs) (hop : o.op = .call ⟨.builtin .append, ⟨[x, y]⟩, ⟨[t, t2]⟩⟩) (ht : elemOf P t = .some el) (ht2 : P.underlying t2 = .some d2) (hd2 : isIntD d2 = false) (hgr : growSize P el = .some sz) (hx : envF F x = .some V) (hy : envF F y = .some B)
    (hm : lenOfA B = .some m) (hm1 : m ≤ 67108864) (hl : len ≤ 67108864) (hnew : firstCells H sz m B = .some new) (hnl : new.length = m * sz) (hm0 : m ≠ 0)
    (hn : ∀ V' Φr' ρ H a w, Row sz V' Φr' (len + m) (cs ++ new) → Sx P ρ0 H0 w0 n Wr (Φr' ++ Ψ) (upd F d V') ρ H a w → wpOps P ops Q rest a w) : wpOps P ops Q (i :: rest) a w := by
  rcases hR with ⟨rfl, rfl, rfl, rfl⟩ | ⟨b, rfl, rfl, hcl⟩
  · refine sx_app0 o d m new ho hg hd hdn h hop ht ht2 hd2 hgr hx hy hm hm1 hnew hm0 fun b ρ H a w hX => ?_
    refine hn _ [(b, new)] ρ H a w (.inr ⟨b, ?_, rfl, ?_⟩) hX.front
    · rw [Nat.zero_add]
    · rw [List.nil_append, Nat.zero_add]; exact hnl
  · refine sx_app o d 0 b len m cs new ho hg hd hdn h hop ht ht2 hd2 hgr hx hy rfl hcl hm hm1 hl hnew hm0 fun b' ρ H a w hX => ?_
    refine hn _ [(b', cs ++ new)] ρ H a w (.inr ⟨b', rfl, rfl, ?_⟩) hX
    rw [List.length_append, hcl, hnl, Nat.add_mul]
end
end Go.Vex
namespace Go.Vex
variable {P : Program} {ρ ρ0 : Rho} {H H0 : Hp} {w w0 : World}
section
variable {n : Nat} {Wr : Nat → Prop} {Φ : List (Nat × List AV)} {F : SlF} {a : Act}
/-- Behind a drawn region: any of the walk's own blocks may have turned. -/
theorem Sx.anyD (h : Sx P ρ0 H0 w0 n Wr Φ F ρ H a w) {ρ' : Rho} {H' : Hp} {w' : World} {F' : SlF} {a' : Act} (hr : Rep ρ' H' w') (hx : Ext ρ H w ρ' H' w') (hS : Sl ρ' n F' a') (hd : a'.defers = [])
    (h3 : ∀ c, c < H.next → (∀ x ∈ Φ, x.1 ≠ c) → H'.fn c = H.fn c) (Φ' : List (Nat × List AV)) (hΦ : ∀ x ∈ Φ', x.1 < H'.next ∧ Content (H'.fn x.1) x.2 ∧ (H.next ≤ x.1 ∨ ∃ y ∈ Φ, y.1 = x.1)) (hn : (Φ'.map (·.1)).Nodup) : Sx P ρ0 H0 w0 n Wr Φ' F' ρ' H' a' w' := by
  refine ⟨hS, hr, h.ext.trans hx, hd, fun b hb hw => ?_, fun k b cs hk => ?_, fun j k b c1 c2 hj hk => ?_⟩
  · rw [h3 b (by have := h.next_le; omega) fun x hx e => ?_]
    · exact h.kp b hb hw
    · obtain ⟨i, hi⟩ := List.mem_iff_getElem?.1 hx
      exact hw ((h.hp i b x.2 (by rw [hi, ← e])).2.2 hb)
  · obtain ⟨h1, h2, h4⟩ := hΦ (b, cs) (List.mem_of_getElem? hk)
    refine ⟨h1, h2, fun hb => ?_⟩
    rcases h4 with h4 | ⟨y, hy, e⟩
    · have h4 : H.next ≤ b := h4
      have := h.next_le; omega
    · obtain ⟨i, hi⟩ := List.mem_iff_getElem?.1 hy
      exact (h.hp i b y.2 (by rw [hi]; congr 1; exact Prod.ext e rfl)).2.2 hb
  · obtain ⟨h1, e1⟩ := List.getElem?_eq_some_iff.1 hj
    obtain ⟨h2, e2⟩ := List.getElem?_eq_some_iff.1 hk
    rw [List.nodup_iff_pairwise_ne, List.pairwise_iff_getElem] at hn
    have hd' : ∀ (p q : Nat) (hp : p < Φ'.length) (hq : q < Φ'.length), p < q → Φ'[p].1 ≠ Φ'[q].1 := fun p q hp hq hpq => by
      have := hn p q (by simpa using hp) (by simpa using hq) hpq
      simpa using this
    rcases Nat.lt_trichotomy j k with hl | rfl | hl
    · exact absurd (by rw [e1, e2]) (hd' j k h1 h2 hl)
    · rfl
    · exact absurd (by rw [e1, e2]) (hd' k j h2 h1 hl)
end
/-- A row's own block, and how it may be enlarged. -/
def CapOK (sz len : Nat) (c : Cap) : Prop := c = .opn sz ∨ c = .fix len
theorem app_any {el : TypeId} {sz b len m : Nat} {c : Cap} {cs new : List AV} {x : AV} (hg : growSize P el = some sz) (hx : lenOfA x = some m) (hm : m ≤ 67108864) (hl : len ≤ 67108864) (hnew : firstCells H sz m x = some new) (hcs : cs.length = len * sz) (hc : Content (H.fn b) cs) (hm0 : m ≠ 0) (hcap : CapOK sz len c) :
    ∃ H', appendA P H el (.slice b 0 len c) x = some (.val (.slice H.next 0 (len + m) (.opn sz)) H') ∧ H'.next = H.next + 1 ∧ (∀ c, c < H.next → c ≠ b → H'.fn c = H.fn c) ∧ Content (H'.fn H.next) (cs ++ new) := by
  rcases hcap with rfl | rfl
  · exact app_own hg hx hm hl hnew hcs hc hm0
  · obtain ⟨t', h1, h2⟩ := ofList_tot (cs ++ new)
    obtain ⟨H', ha⟩ := Hp.alloc_tot H (.cells (cs ++ new).length .any t')
    obtain ⟨a1, a2⟩ := Hp.alloc_fn ha
    refine ⟨H', ?_, a1, fun c hc _ => by rw [a2, if_neg (by omega)], by rw [a2, if_pos rfl]; exact ofList_content h1⟩
    show ob (growSize P el) _ = _
    rw [hg]
    show ob (lenOfA x) _ = _
    rw [hx]
    show iteB (Nat.ble m 67108864) (ob (some len) fun m' => iteB (Nat.ble m' 67108864) (ob (firstCells H sz m x) fun new => appTo H sz m new (.slice b 0 len (.fix len))) none) none = _
    have e1 : Nat.ble m 67108864 = true := by rw [Nat.ble_eq]; exact hm
    have e2 : Nat.ble len 67108864 = true := by rw [Nat.ble_eq]; exact hl
    rw [e1, iteB_true, ob_mk, e2, iteB_true, hnew]
    show iteB (Nat.ble (Nat.add len m) len) _ (growA H sz b 0 len m new) = _
    have e3 : Nat.ble (Nat.add len m) len = false := by
      cases h : Nat.ble (Nat.add len m) len with
      | false => rfl
      | true => have : len + m ≤ len := Nat.le_of_ble_eq_true h; omega
    rw [e3, iteB_false]
    show ob (H.loadN b 0 (Nat.mul len sz)) _ = _
    have hld : H.loadN b 0 (len * sz) = some cs := hc.loadN (by omega) (by rw [List.drop_zero]; exact List.take_of_length_le (by omega))
    have hld : H.loadN b 0 (Nat.mul len sz) = some cs := hld
    rw [hld]
    show ob (app cs new) _ = _
    rw [app_ok cs new]
    show ob (ofList (cs ++ new)) _ = _
    rw [h1]
    show ob (H.alloc _) _ = _
    rw [ha]; rfl
/-- append to a row of the walk's own; the new block is known. -/
theorem sx_appC {n : Nat} {Wr : Nat → Prop} {Φ : List (Nat × List AV)} {F : SlF} {a : Act} {ops : Array Oper} {Q : Exit → Act → World → Prop} {i : Nat} {rest : List Nat} (o : Oper) (d : Nat) (k b len m : Nat) (c : Cap) (cs new : List AV) {t el t2 : TypeId} {d2 : TypeDesc} {x y : Operand} {B : AV} {sz : Nat} (ho : ops[i]? = some o) (hg : o.guard = none) (hd : o.dst = some d) (hdn : d < n) (h : Sx P ρ0 H0 w0 n Wr Φ F ρ H a w)
    (hop : o.op = .call ⟨.builtin .append, ⟨[x, y]⟩, ⟨[t, t2]⟩⟩) (ht : elemOf P t = some el) (ht2 : P.underlying t2 = some d2) (hd2 : isIntD d2 = false) (hgr : growSize P el = some sz) (hcap : CapOK sz len c) (hx : envF F x = some (.slice b 0 len c)) (hy : envF F y = some B)
    (hk : Φ[k]? = some (b, cs)) (hcs : cs.length = len * sz) (hm : lenOfA B = some m) (hm1 : m ≤ 67108864) (hl : len ≤ 67108864) (hnew : firstCells H sz m B = some new) (hm0 : m ≠ 0)
    (hn : ∀ ρ H' a w, Sx P ρ0 H0 w0 n Wr (Φ.set k (H.next, cs ++ new)) (upd F d (.slice H.next 0 (len + m) (.opn sz))) ρ H' a w → wpOps P ops Q rest a w) : wpOps P ops Q (i :: rest) a w := by
  obtain ⟨H', h1, h2, h3, h4⟩ := app_any (P := P) (H := H) hgr hm hm1 hl hnew hcs (h.has k hk) hm0 hcap
  refine step_v o d _ H' ho hg hd hdn h.sl h.rep (by rw [hop]; exact hop_app ht ht2 hd2 hx hy h1) fun ρ' a' w' hr hx' hS hdf _ => hn ρ' H' a' w' ?_
  exact h.move hk hr hx' hS hdf (Nat.le_refl _) (by omega) h3 h4
section
variable {e : Env}
theorem hop_bslice' {t el : TypeId} {len s : Nat} {ps : Array (Nat × Operand)} {z zs cs : List AV} {o : AO} (ho : ofList cs = some o) (H' : Hp) (ha : H.alloc o = some H') (ht : elemOf P t = some el) (hs : size P el = some s) (hz : zeroCells P el = some z) (hzl : z.length = s) (hr : rowOf z len = some zs) (hf : fillParts e (arrPlace s) ps.toList zs = some cs) (hb : len * s ≤ 65536) :
    opA P (.buildSlice t len ps) e H = some (.val (.slice H.next 0 len (.fix len)) H') := by
  show ob (elemOf P t) _ = _
  rw [ht]
  show ob (size P el) _ = _
  rw [hs]
  show ob (zeroCells P el) _ = _
  rw [hz]
  show iteB (Nat.beq (lenL z 0) s) _ _ = _
  rw [lenL_zero, hzl, Nat.beq_refl, iteB_true, hr]
  show ob (fillParts e (arrPlace s) ps.toList zs) _ = _
  rw [hf]
  show ob (ofList cs) _ = _
  rw [ho]
  show iteB (Nat.ble (Nat.mul len s) 65536) _ _ = _
  have : Nat.ble (Nat.mul len s) 65536 = true := by rw [Nat.ble_eq]; exact hb
  rw [this]
  show ob (H.alloc _) _ = _
  rw [ha]; rfl
end
end Go.Vex
namespace Go.Vex
variable {P : Program} {ρ ρ' : Rho} {H H' H'' : Hp} {w w' : World}
/-! ### What a contract says, as a known call -/
def Rho.below (ρ : Rho) (n : Nat) : Rho := fun b => if b < n then ρ b else none
theorem Rho.below_some {ρ : Rho} {n b : Nat} {x} (h : ρ.below n b = some x) : b < n ∧ ρ b = some x := by
  unfold Rho.below at h
  split at h
  · exact ⟨‹_›, h⟩
  · cases h
/-- New blocks are let go. -/
theorem Rep.letgo {k : Nat} (hr : Rep ρ H w) (hr' : Rep ρ' H' w') (hx : Ext ρ H w ρ' H' w') (hn : H''.next = H.next)
    (hs : ∀ b, b < H.next → (H''.fn b = H.fn b ∧ H'.fn b = H.fn b) ∨ ∃ cs, Content (H'.fn b) cs ∧ Content (H''.fn b) cs ∧ cs.all (flatB k) = true) (hd : ∀ b, H.next ≤ b → H''.fn b = .dead) :
    Rep (ρ'.below H.next) H'' w' ∧ Ext ρ H w (ρ'.below H.next) H'' w' := by
  have hsub : ρ.sub (ρ'.below H.next) := fun b x hb => by
    have h1 := hr.rho_lt hb
    unfold Rho.below
    rw [if_pos h1]; exact hx.sub _ _ hb
  have hlt : ∀ b, Lv (H''.fn b) → b < H.next := fun b hb => by
    rcases Nat.lt_or_ge b H.next with h | h
    · exact h
    · rw [hd b h] at hb; exact hb.elim
  have hlv : ∀ b, Lv (H''.fn b) → Lv (H'.fn b) := fun b hb => by
    rcases hs b (hlt b hb) with ⟨h1, h2⟩ | ⟨cs, h1, _, _⟩
    · rw [h2, ← h1]; exact hb
    · exact h1.dead
  have hext : Ext ρ H w (ρ'.below H.next) H'' w' := by
    refine ⟨hsub, by rw [hn]; exact Nat.le_refl _, hx.size, fun r hlr hu => ⟨(hx.frame r hlr hu).1, fun b r' x hb hbx => ?_⟩, hx.os, hx.out, fun b n d t hb => ?_⟩
    · exact (hx.frame r hlr hu).2 b r' x (hlv b hb) (Rho.below_some hbx).2
    · have hbl : b < H.next := by
        rcases Nat.lt_or_ge b H.next with h | h
        · exact h
        · rw [hd b h] at hb; cases hb
      rcases hs b hbl with ⟨h1, _⟩ | ⟨cs, _, ⟨d1, t1, e, _⟩, _⟩
      · rw [← h1]; exact hb
      · rw [e] at hb; cases hb
  refine ⟨⟨fun b hb => ?_, fun b b' r x r' x' hb hb' h1 h2 hne => hr'.inj b b' r x r' x' (hlv b hb) (hlv b' hb') (Rho.below_some h1).2 (Rho.below_some h2).2 hne, fun b hb => ?_, hr.rdx hext⟩, hext⟩
  · have hbl := hlt b hb
    have hbe : ρ'.below H.next b = ρ' b := by unfold Rho.below; rw [if_pos hbl]
    rw [hbe]
    rcases hs b hbl with ⟨h1, h2⟩ | ⟨cs, h1, h2, h3⟩
    · rw [h1] at hb
      obtain ⟨r, base, e, ob0, g1, g2, g3⟩ := hr.live b hb
      obtain ⟨ob, k1, k2⟩ := hr'.at_ (b := b) (by rw [h2]; exact hb) (hx.sub _ _ g1)
      rw [h2] at k2
      exact ⟨r, base, e, ob, hx.sub _ _ g1, k1, by rw [h1]; exact (g3.back hx.sub k2).mono hsub⟩
    · obtain ⟨r, base, e, ob, g1, g2, g3⟩ := hr'.live b h1.dead
      refine ⟨r, base, e, ob, g1, g2, ?_⟩
      obtain ⟨d1, t1, e1, c1⟩ := h1
      obtain ⟨d2, t2, e2, c2⟩ := h2
      rw [e1] at g3
      rw [e2]
      cases g3 with
      | cells q1 q2 q3 q4 =>
        refine .cells q1 q2 (fun i hi => ?_) q4
        obtain ⟨a, v, z1, z2, z3, z4⟩ := q3 i hi
        have hc := List.getElem?_eq_getElem hi
        have := c1 i _ hc
        rw [z1] at this
        injection this with this
        exact ⟨a, v, by rw [c2 i _ hc, this], z2, RV.flat k a (List.all_eq_true.1 h3 a (by rw [this]; exact List.getElem_mem hi)) v z3, z4⟩
  · unfold Rho.below
    rw [if_neg (by omega)]
theorem Rep.none_above (hr : Rep ρ H w) {b : Nat} (hb : H.next ≤ b) : H.fn b = .dead := by
  cases hf : H.fn b with
  | dead => rfl
  | ro n d t => obtain ⟨_, _, _, q1, _⟩ := hr.rd _ _ _ _ hf; have := hr.rho_lt q1; omega
  | _ => have := hr.lt (b := b) (by rw [hf]; simp); omega
theorem turns_kpost {f : FuncId} {args : List AV} {V : AV} {p k : Nat} {cs cs' : List AV} (hs : Spec P f args H (Turns p (fun v c => v = V ∧ c = cs') H)) (hV : flatB k V = true) (hc' : cs'.all (flatB k) = true) (hp : Content (H.fn p) cs) (hl : cs'.length = cs.length) (hst : H.storeN p 0 cs' = some H'') (hpl : p < H.next) :
    ∀ (ρ : Rho) (w : World) (us : List Value), All2 (RV ρ) args us → Rep ρ H w → Calls P f us.toArray w (KPost ρ H w (.ret V H'')) := by
  intro ρ w us ha hr
  obtain ⟨H1, g1, g2, g3, g4⟩ := hp.store (i := 0) (vs := cs') (by omega)
  rw [hst] at g1
  injection g1 with g1; subst g1
  have g4 : Content (H''.fn p) cs' := by
    rw [List.take_zero, List.nil_append, Nat.zero_add, hl, List.drop_length, List.append_nil] at g4; exact g4
  refine Calls.mono (hs ρ w us ha hr) fun e w' hq => ?_
  obtain ⟨ρ', H', u, v, rfl, hv, hr', hx, cs1, ⟨rfl, rfl⟩, h1, h2⟩ := hq
  obtain ⟨q1, q2⟩ := hr.letgo (k := k) (H'' := H'') hr' hx g2 (fun b hb => by
    by_cases e : b = p
    · subst e; exact .inr ⟨_, h1, g4, hc'⟩
    · exact .inl ⟨g3 b e, h2 b hb e⟩) (fun b hb => by rw [g3 b (by omega)]; exact hr.none_above hb)
  exact ⟨_, u, rfl, RV.flat k _ hV u hv, q1, q2⟩
theorem pure_kpost {f : FuncId} {args : List AV} {V : AV} {k : Nat} (hs : Spec P f args H (Pure V H)) (hV : flatB k V = true) :
    ∀ (ρ : Rho) (w : World) (us : List Value), All2 (RV ρ) args us → Rep ρ H w → Calls P f us.toArray w (KPost ρ H w (.ret V H)) := by
  intro ρ w us ha hr
  refine Calls.mono (hs ρ w us ha hr) fun e w' hq => ?_
  obtain ⟨ρ', H', u, v, rfl, hv, hr', hx, rfl, h2⟩ := hq
  obtain ⟨q1, q2⟩ := hr.letgo (k := k) (H'' := H) hr' hx rfl (fun b hb => .inl ⟨rfl, h2 b hb⟩) (fun b hb => hr.none_above hb)
  exact ⟨_, u, rfl, RV.flat k _ hV u hv, q1, q2⟩
open Classical in
noncomputable def oneCall (f : FuncId) (args : List AV) (H : Hp) (k : KR) : CallF := fun g as H1 => if g = f ∧ as = args ∧ H1 = H then some k else none
theorem oneCall_ok {f : FuncId} {args : List AV} {k : KR} (h : ∀ (ρ : Rho) (w : World) (us : List Value), All2 (RV ρ) args us → Rep ρ H w → Calls P f us.toArray w (KPost ρ H w k)) : CallOK P (oneCall f args H k) := by
  intro g as H1 k' hk _ ρ w us ha hr
  unfold oneCall at hk
  split at hk
  · rename_i e
    obtain ⟨rfl, rfl, rfl⟩ := e
    injection hk with hk; subst hk
    exact h ρ w us ha hr
  · cases hk
theorem oneCall_eq (f : FuncId) (args : List AV) (H : Hp) (k : KR) : oneCall f args H k f args H = some k := by
  unfold oneCall; rw [if_pos ⟨rfl, rfl, rfl⟩]
/-- append to a row that grows, wherever it lies. -/
theorem app_row {el : TypeId} {sz len m : Nat} {cs new : List AV} {x V : AV} {Φr : List (Nat × List AV)} (hR : Row sz V Φr len cs) (hΦ : ∀ y ∈ Φr, Content (H.fn y.1) y.2) (hg : growSize P el = some sz) (hx : lenOfA x = some m) (hm : m ≤ 67108864) (hl : len ≤ 67108864) (hnew : firstCells H sz m x = some new) (hm0 : m ≠ 0) :
    ∃ H', appendA P H el V x = some (.val (.slice H.next 0 (len + m) (.opn sz)) H') ∧ H'.next = H.next + 1 ∧ (∀ c, c < H.next → (∀ y ∈ Φr, y.1 ≠ c) → H'.fn c = H.fn c) ∧ Content (H'.fn H.next) (cs ++ new) := by
  rcases hR with ⟨rfl, rfl, rfl, rfl⟩ | ⟨b, rfl, rfl, hcl⟩
  · obtain ⟨t', h1, h2⟩ := ofList_tot new
    obtain ⟨H', ha⟩ := Hp.alloc_tot H (.cells new.length .any t')
    obtain ⟨a1, a2⟩ := Hp.alloc_fn ha
    refine ⟨H', ?_, a1, fun c hc _ => by rw [a2, if_neg (by omega)], by rw [a2, if_pos rfl]; exact ofList_content h1⟩
    show ob (growSize P el) _ = _
    rw [hg]
    show ob (lenOfA x) _ = _
    rw [hx]
    show iteB (Nat.ble m 67108864) (ob (firstCells H sz m x) fun new => appTo H sz m new .nils) none = _
    have e1 : Nat.ble m 67108864 = true := by rw [Nat.ble_eq]; exact hm
    rw [e1, iteB_true, hnew]
    show iteB (Nat.beq m 0) _ (ob (ofList new) fun o => allocV H o (.slice H.next 0 m (.opn sz))) = _
    have e3 : Nat.beq m 0 = false := by rw [beq_dec]; simp [hm0]
    rw [e3, iteB_false, h1]
    show ob (H.alloc _) _ = _
    rw [ha, Nat.zero_add]; rfl
  · obtain ⟨H', h1, h2, h3, h4⟩ := app_own (P := P) (H := H) (b := b) (cs := cs) hg hx hm hl hnew hcl (hΦ (b, cs) List.mem_cons_self) hm0
    exact ⟨H', h1, h2, fun c hc hne => h3 c hc (fun e => hne (b, cs) List.mem_cons_self e.symm), h4⟩
end Go.Vex
namespace Go.Vex
variable {P : Program} {ρ ρ0 : Rho} {H H0 : Hp} {w w0 : World}
section
variable {n : Nat} {Wr : Nat → Prop} {Φ : List (Nat × List AV)} {F : SlF} {a : Act} {fn : Func} {R : AV → Hp → Prop}
/-- A result that lies in a block. -/
theorem sx_retc (s t : Tmp) {ty : TypeId} {b o m : Nat} {vs : List AV} {v : AV} (h : Sx P ρ0 H0 w0 n Wr Φ F ρ H a w) (hr : fn.results = #[.cell s ty, .tmp t]) (hty : tyA P ty = some (true, m)) (hs : F s = some (.ptr b o)) (hl : H.loadN b o m = some vs) (hv : F t = some v) (hR : R (.tup [.agg vs, v]) H) {Q : Exit → Act → World → Prop} (hQ : Leaves P fn a.tmps (Post ρ0 H0 w0 R) a.defers .returning w → Q .ret a w) : Code.ret.wp P Q a w := by
  refine wp_ret (hQ ?_)
  rw [h.df]
  obtain ⟨_, r, base, e, hr', hu⟩ := asPtr_rel (q := (b, o)) rfl (h.sl.rel s _ hs)
  obtain ⟨u, h4, h5⟩ := loadAs_ok (P := P) (ty := (true, m)) (q := (b, o)) (v := .agg vs) h.rep hty (by show ob (H.loadN b o m) _ = _; rw [hl]; rfl) hr'
  refine ⟨.tuple #[u, a.tmps.getD t undef], ?_, ρ, H, _, _, rfl, .tup (vs := [_, _]) (.cons h5 (.cons (h.sl.rel t v hv) .nil)), h.rep, h.ext, hR⟩
  have hu : a.tmps.getD s undef = .pointer (some ⟨r, base + o, none⟩) := hu
  unfold results
  rw [hr]
  have h4 : (loadVar ty ⟨r, base + o, none⟩).run P w = .ok u w := h4
  have hA : (asAddr (.pointer (some ⟨r, base + o, none⟩))).run P w = .ok ⟨r, base + o, none⟩ w := rfl
  simp only [Array.mapM_eq_mapM_toList, List.mapM_cons, List.mapM_nil, Sem.run_bind, Sem.run_map, hu, hA, Result.andThen_ok, h4]
  rfl
end
section
variable {n : Nat} {Wr : Nat → Prop} {Φ : List (Nat × List AV)} {F : SlF} {a : Act} {ops : Array Oper} {Q : Exit → Act → World → Prop} {i : Nat} {rest : List Nat}
/-- A call by its contract, behind a guard that lets it run. -/
theorem sx_gcall (o : Oper) (f : FuncId) (args : List AV) {R : AV → Hp → Prop} (ho : ops[i]? = some o) (hw : wanted ops.toList o (envF F) = some true) (h : Sx P ρ0 H0 w0 n Wr Φ F ρ H a w) (hop : opA P o.op (envF F) H = some (.call f args)) (hs : Spec P f args H R)
    (hk : ∀ v ρ' H' u w', R v H' → RV ρ' v u → Rep ρ' H' w' → Ext ρ H w ρ' H' w' → wpOps P ops Q rest (a.put o.dst u) w') : wpOps P ops Q (i :: rest) a w := by
  obtain ⟨_, vs, hrun, hall⟩ := opA_ok (P := P) (w := w) h.rep h.sl.env hop
  have hww := wanted_ok (ρ := ρ) (ops := ops) (tmps := a.tmps) (fun d _ v hv => h.sl.rel d v hv) hw
  rw [wpOps_cons]
  unfold wpOp
  simp only [ho, hww, if_true]
  left
  unfold Oper.wp
  rw [hrun]
  refine Calls.mono (hs ρ w vs hall h.rep) fun e w' hp => ?_
  obtain ⟨ρ', H', u, v, rfl, hv, hr, hx, hR⟩ := hp
  exact hk v ρ' H' u w' hR hv hr hx
theorem sx_gpure (o : Oper) (d : Nat) (f : FuncId) (args : List AV) (V : AV) (ho : ops[i]? = some o) (hw : wanted ops.toList o (envF F) = some true) (hd : o.dst = some d) (hdn : d < n) (h : Sx P ρ0 H0 w0 n Wr Φ F ρ H a w) (hop : opA P o.op (envF F) H = some (.call f args)) (hs : Spec P f args H (Pure V H))
    (hk : ∀ ρ H a w, Sx P ρ0 H0 w0 n Wr Φ (upd F d V) ρ H a w → wpOps P ops Q rest a w) : wpOps P ops Q (i :: rest) a w :=
  sx_gcall o f args ho hw h hop hs fun v ρ' H' u w' hR hv hr hx => by
    obtain ⟨rfl, hst⟩ := hR
    rw [hd]
    exact hk ρ' H' _ w' ((h.stay hr hx hst).put hdn hv)
/-- A guarded operation that is not wanted. -/
theorem sx_gskip (o : Oper) (d : Nat) (ho : ops[i]? = some o) (hw : wanted ops.toList o (envF F) = some false) (hd : o.dst = some d) (hdn : d < n) (h : Sx P ρ0 H0 w0 n Wr Φ F ρ H a w)
    (hk : ∀ a, Sx P ρ0 H0 w0 n Wr Φ (upd F d .undef) ρ H a w → wpOps P ops Q rest a w) : wpOps P ops Q (i :: rest) a w := by
  have hww := wanted_ok (ρ := ρ) (ops := ops) (tmps := a.tmps) (fun d _ v hv => h.sl.rel d v hv) hw
  rw [wpOps_cons]
  unfold wpOp
  simp only [ho, hww]
  rw [if_neg (by simp), hd]
  exact hk _ (h.put hdn .undef)
end
theorem bin_neq_str {t : TypeId} {a b : List Nat} : binA P .neq t (.str a) (.str b) = some (.bool (!decide (a = b))) := by
  rw [← strEq_iff]; rfl
theorem bin_eql_str {t : TypeId} {a b : List Nat} : binA P .eql t (.str a) (.str b) = some (.bool (decide (a = b))) := by
  rw [← strEq_iff]; rfl
theorem bin_add_str {t : TypeId} {a b : List Nat} (h : a.length + b.length ≤ 1000000000) : binA P .add t (.str a) (.str b) = some (.str (a ++ b)) := by
  show iteB (Nat.ble (lenL a (lenL b 0)) 1000000000) (ob (app a b) fun r => some (AV.str r)) none = _
  have e : lenL a (lenL b 0) = a.length + b.length := by rw [lenL_zero, lenL_eq]
  rw [e]
  have e2 : Nat.ble (a.length + b.length) 1000000000 = true := by rw [Nat.ble_eq]; exact h
  rw [e2, iteB_true, app_ok a b]; rfl
theorem inBlock_miss {id id' : Nat} {Q : Exit → Act → World → Prop} {a : Act} (hne : id' ≠ id) (h : Q (.exit id') a w) : Exit.inBlock id Q (.exit id') a w := by
  show (if id' = id then Q .normal a w else Q (.exit id') a w)
  rw [if_neg hne]; exact h
theorem hop_callg {e : Env} {H : Hp} {g : FuncId} {args : Array Operand} {ats : Array TypeId} {l : List AV} (he : e (.func g) = some (.func g [] [])) (hen : enterOK P g = true) (hl : opds e args.toList = some l) : opA P (.call ⟨.value (.func g), args, ats⟩) e H = some (.call g l) := by
  show ob (opds e args.toList) _ = _
  rw [hl]
  show ob (e (.func g)) _ = _
  rw [he]
  show iteB (enterOK P g) (ob (app l []) fun r => ob (app [] r) fun r => some (OR.call g r)) none = _
  rw [hen, iteB_true, app_ok l [], List.append_nil]
  show ob (app [] l) _ = _
  rw [app_ok [] l]; rfl
end Go.Vex
