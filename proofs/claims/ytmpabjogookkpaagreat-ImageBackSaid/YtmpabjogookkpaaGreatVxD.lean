/-
  Operations of the evaluator are sound, second part.
  No condition.
-/
import Derived.Test.YtmpabjogookkpaaGreatVxC
import Derived.Laws.BytesArg
set_option linter.unusedVariables false
namespace Go.Vex
variable {P : Program} {ρ : Rho} {H : Hp} {w : World} {e : Env} {σ : Operand → Value}
theorem sameNow_sameBits {d : TypeDesc} {a b : Value} (h : Instr.sameNow d a b = some true) (n : Nat) : Instr.sameBits n b a = true := by
  unfold Instr.sameNow at h
  split at h
  · rename_i k' k a k'' b
    by_cases hk : k = k''
    · subst hk
      simp at h
      subst h
      cases n <;> simp [Instr.sameBits]
    · simp [hk] at h
  · rename_i a b
    simp only [Option.some.injEq] at h
    rw [beq_toListBytes] at h
    have : (b == a) = true := by rw [beq_toListBytes]; simp at h ⊢; exact h.symm
    cases n <;> exact this
  · rename_i a b
    simp at h
    subst h
    cases n <;> simp [Instr.sameBits]
  · cases h
/-- An entry written: over an old one, or behind all. -/
theorem updA_ok (P : Program) (w : World) {kd : TypeDesc} {k x : AV} {u y : Value} (hk : RV ρ k u) (hx : RV ρ x y) {c : Nat} : ∀ (es : List Ent) (ces : List MapEntry), All2 (REnt ρ) es ces → ∀ (r : List Ent × Bool) (i : Nat), updA kd k x c es = some r →
    (r.2 = true ∧ Instr.findNow kd u ces i = some none ∧ r.1 = es ++ [(k, x, c)]) ∨
    (r.2 = false ∧ ∃ j z m, Instr.findNow kd u ces i = some (some (i + j, z)) ∧ ces[j]? = some m ∧ Instr.sameNow kd u m.key = some true ∧ All2 (REnt ρ) r.1 (ces.modify j fun m => { m with key := u, val := y })) := by
  intro es ces h
  induction h with
  | nil =>
    intro r i hr
    have h' : some ([(k, x, c)], true) = some r := hr
    injection h' with h'; subst h'
    exact .inl ⟨rfl, rfl, rfl⟩
  | @cons e m es ces hab hl ih =>
    intro r i hr
    have h0 : (ob (eqCellD kd k e.1) fun b => iteB b (some ((k, x, e.2.2) :: es, false)) (ob (updA kd k x c es) fun q => some (e :: q.1, q.2))) = some r := hr
    obtain ⟨b, hb, h1⟩ := ob_some h0
    have hn := (eqCellD_ok (P := P) (w := w) hb hk hab.1).2
    cases b with
    | true =>
      have h2 : some ((k, x, e.2.2) :: es, false) = some r := h1
      injection h2 with h2; subst h2
      refine .inr ⟨rfl, 0, m.val, m, ?_, rfl, hn, ?_⟩
      · unfold Instr.findNow; rw [hn]; rfl
      · exact .cons ⟨hk, hx, hab.2.2⟩ hl
    | false =>
      obtain ⟨q, hq, h2⟩ := ob_some (x := updA kd k x c es) h1
      injection h2 with h2; subst h2
      rcases ih q (i + 1) hq with ⟨a1, a2, a3⟩ | ⟨a1, j, z, m', a2, a3, a4, a5⟩
      · refine .inl ⟨a1, ?_, by rw [a3]; rfl⟩
        unfold Instr.findNow; rw [hn]; exact a2
      · refine .inr ⟨a1, j + 1, z, m', ?_, a3, a4, ?_⟩
        · unfold Instr.findNow; rw [hn]
          have : i + (j + 1) = i + 1 + j := by omega
          rw [this]; exact a2
        · exact .cons hab a5
theorem All2.snoc {α β : Type} {R : α → β → Prop} {l : List α} {k : List β} (h : All2 R l k) {a : α} {b : β} (hab : R a b) : All2 R (l ++ [a]) (k ++ [b]) := h.append (.cons hab .nil)
theorem mapUpd_ok (h : Rep ρ H w) (he : EnvR ρ e σ) {t : TypeId} {m k x : Operand} {r : OR} (hh : opMapUpd P e H t m k x = some r) : OpOK P ρ H w (do Instr.mapUpdate t (σ m) (σ k) (σ x); pure .skip) r := by
  obtain ⟨kd, hkd, h1⟩ := ob_some hh
  obtain ⟨vm, hvm, h2⟩ := ob_some h1
  obtain ⟨b, hb, h3⟩ := ob_some h2
  obtain ⟨vk, hvk, h4⟩ := ob_some h3
  obtain ⟨_, hko, h5⟩ := ob_some h4
  obtain ⟨vx, hvx, h6⟩ := ob_some h5
  obtain ⟨o, ho, h7⟩ := ob_some h6
  obtain ⟨q, hq, h8⟩ := ob_some h7
  obtain ⟨u, hu, h9⟩ := ob_some h8
  obtain ⟨H', hp, h10⟩ := ob_some h9
  injection h10 with h10
  clear hh h1 h2 h3 h4 h5 h6 h7 h8 h9
  subst h10
  obtain ⟨d, hd, hk1⟩ := ob_some hkd
  obtain ⟨qq, hqq, hk2⟩ := ob_some hk1
  have := mapD_inv hqq
  subst this
  have := asMapo_inv hq
  subst this
  have hf := Hp.fn_of_obj ho
  have hmv := he _ _ hvm
  have hmu : ∃ r' xx, σ m = .map (some r') ∧ ρ b = some (r', xx) := by
    generalize σ m = um at hmv
    cases hmv
    case map hr => injection hb with hb; subst hb; exact ⟨_, _, rfl, hr⟩
    all_goals cases hb
  obtain ⟨r', xx, hmu, hr⟩ := hmu
  obtain ⟨ces, hw, hall⟩ := h.mapAt hr hf
  obtain ⟨base, en⟩ := xx
  have hck := keyOk_check (w := w) hk2 hko (u := σ k) false
  have hnd : Lv (H.fn b) := by rw [hf]; simp
  rcases updA_ok P w (he _ _ hvk) (he _ _ hvx) q.1 ces.toList hall u 0 hu with ⟨a1, a2, a3⟩ | ⟨a1, j, z, m', a2, a3, a4, a5⟩
  · rw [a1] at hp
    have hp' : H.put b (.mapo u.1 (q.2 + 1)) = some H' := hp
    obtain ⟨hrep, hext⟩ := h.put hp' hnd hr (by simp) (ob := .map (ces.push { key := σ k, val := σ x, born := q.2 }) (q.2 + 1)) (.mapo (by
      rw [a3, Array.toList_push]
      exact hall.snoc ⟨he _ _ hvk, he _ _ hvx, rfl⟩))
    refine ⟨ρ, _, ?_, hrep, hext⟩
    unfold Instr.mapUpdate
    rw [hmu]
    simp only [Sem.run_bind, run_underlying hd w, Result.andThen_ok, run_getObj hw (by simp), hck, run_findKey hk2 a2, run_setObj hw (by simp), Sem.run_pure]
  · rw [a1] at hp
    have hp' : H.put b (.mapo u.1 q.2) = some H' := hp
    have hj : ces[j]? = some m' := by simpa using a3
    obtain ⟨hrep, hext⟩ := h.put hp' hnd hr (by simp) (ob := .map (ces.modify j fun m => { m with key := σ k, val := σ x }) q.2) (.mapo (by
      rw [Array.toList_modify]; exact a5))
    refine ⟨ρ, _, ?_, hrep, hext⟩
    unfold Instr.mapUpdate
    rw [hmu]
    have hst : (Instr.keyThatStays m'.key (σ k)).run P w = .ok (σ k) w := by
      unfold Instr.keyThatStays
      rw [sameNow_sameBits a4]; rfl
    simp only [Nat.zero_add] at a2
    simp only [Sem.run_bind, run_underlying hd w, Result.andThen_ok, run_getObj hw (by simp), hck, run_findKey hk2 a2, hj, Option.map_some, Option.getD_some, hst, run_setObj hw (by simp), Sem.run_pure]
/-! ### A string ranged over -/
theorem range_ok (h : Rep ρ H w) (he : EnvR ρ e σ) {t : TypeId} {x : Operand} {r : OR} (hh0 : opRange P e H t x = some r) : OpOK P ρ H w (do pure (.value (← Instr.range t (σ x)))) r := by
  obtain ⟨d, ht, hh1⟩ := ob_some hh0
  obtain ⟨_, hd', hh⟩ := ob_some hh1
  have ed : d = .string := by cases d <;> first | rfl | cases hd'
  subst ed
  obtain ⟨v, hv, h1⟩ := ob_some hh
  obtain ⟨s, hs, h2⟩ := ob_some h1
  obtain ⟨H', ha, rfl⟩ := allocV_inv h2
  obtain ⟨b, hb, rfl⟩ := asStr_rel hs (he _ _ hv)
  obtain ⟨h3, h4⟩ := h.alloc (e := 0) ha (by simp) (ob := .stringIter b 0) .siter
  refine ⟨_, _, .pointer (some ⟨w.heap.size, 0 + 0, none⟩), ?_, h3, h4, .ptr (r := w.heap.size) (base := 0) (e := 0) (by simp [Rho.put])⟩
  unfold Instr.range
  rw [hb]
  simp [run_underlying ht w, World.new]
theorem decode_ascii {b : ByteArray} {i : Nat} (hi : i < b.size) (h : (b[i]).toNat < 128) : Utf8.decode b i = ((b[i]).toNat, 1) := by
  unfold Utf8.decode
  have e1 : b.get! (i + 0) = b[i] := by
    show b.data[i]! = _
    rw [getElem!_pos b.data i (by simpa using hi)]; rfl
  simp only [e1]
  rw [if_pos h]
theorem asIter_inv {o : AO} {q} (h : asIter o = some q) : o = .siter q.1 q.2 := by
  cases o <;> first | (injection h with h; subst h; rfl) | cases h
theorem next_ok (h : Rep ρ H w) (he : EnvR ρ e σ) {x : Operand} {str : Bool} {ty : TypeId} {r : OR} (hh : opNext e H x str = some r) : OpOK P ρ H w (do pure (.value (← Instr.next (σ x) str ty))) r := by
  obtain ⟨hstr, h0⟩ := iteB_some hh
  subst hstr
  obtain ⟨p, hp, h1⟩ := ob_some h0
  obtain ⟨a, ha, h2⟩ := ob_some h1
  obtain ⟨hz, h3⟩ := iteB_some h2
  obtain ⟨o, ho, h4⟩ := ob_some h3
  obtain ⟨q, hq, h5⟩ := ob_some h4
  clear hh h0 h1 h2 h3 h4
  have := asIter_inv hq
  subst this
  have hf := Hp.fn_of_obj ho
  have hnd : Lv (H.fn a.1) := by rw [hf]; simp
  obtain ⟨_, r', base, en, hr, hu⟩ := asPtr_rel ha (he _ _ hp)
  obtain ⟨obj, hob, hro⟩ := h.at_ hnd hr
  have hz := beq_eq hz
  rw [hf] at hro
  obtain ⟨s, pos⟩ := q
  cases hro with
  | siter =>
    rename_i b
    rw [hz] at hu
    have h6 : optRec (valH H (.tup [.bool false])) (fun c => iteB (Nat.blt c 128) (ob (H.put a.1 (.siter (natsOf b.data.toList) (Nat.succ pos))) fun H' => valH H' (.tup [.bool true, .int .i64 (.ofNat pos), .int .i32 (.ofNat c)])) none) (nth (natsOf b.data.toList) pos) = some r := h5
    rw [nth_eq] at h6
    cases hg : (natsOf b.data.toList)[pos]? with
    | none =>
      rw [hg] at h6
      have h7 : valH H (.tup [.bool false]) = some r := h6
      have := valH_inv h7
      subst this
      have hge : ¬ pos < b.size := by
        rw [← natsOf_size]
        intro hlt
        rw [List.getElem?_eq_getElem hlt] at hg; cases hg
      refine ⟨ρ, w, .tuple #[.bool false], ?_, h, Ext.refl _ _ _, .tup (vs := [.bool false]) (.cons (.bool _) .nil)⟩
      unfold Instr.next
      rw [hu]
      simp only [Sem.run_bind, run_getObj hob (by simp), Result.andThen_ok, hge, if_false, Sem.run_pure]
    | some c =>
      rw [hg] at h6
      obtain ⟨hc, h7⟩ := iteB_some (b := Nat.blt c 128) h6
      obtain ⟨H', hput, h8⟩ := ob_some h7
      have := valH_inv h8
      subst this
      obtain ⟨hlt, hbc⟩ := natsOf_get hg
      have hc := blt_lt hc
      obtain ⟨hrep, hext⟩ := h.put hput hnd hr (by simp) (ob := .stringIter b (pos + 1)) .siter
      refine ⟨ρ, _, .tuple #[.bool true, .int .i64 pos, .int .i32 c], ?_, hrep, hext, .tup (vs := [.bool true, .int .i64 pos, .int .i32 c]) (.cons (.bool _) (.cons (.int _ _) (.cons (.int _ _) .nil)))⟩
      unfold Instr.next
      rw [hu]
      have hd := decode_ascii hlt (by omega)
      simp only [Sem.run_bind, run_getObj hob (by simp), Result.andThen_ok, hlt, if_true, hd, run_setObj hob (by simp), Sem.run_pure, goInt, hbc]
end Go.Vex
namespace Go.Vex
variable {P : Program} {ρ : Rho} {H : Hp} {w : World} {e : Env} {σ : Operand → Value}
/-! ### append, copy -/
theorem lenOf_ok {v : AV} {u : Value} {n : Nat} (h : lenOfA v = some n) (hv : RV ρ v u) (w : World) : (Builtin.lenOf u).run P w = .ok n w := by
  cases hv
  case sfix => injection h with h; subst h; rfl
  case sopn => injection h with h; subst h; rfl
  case nils => injection h with h; subst h; rfl
  case str b => injection h with h; rw [lenL_zero, natsOf_size] at h; subst h; rfl
  all_goals cases h
theorem cell_heap {w w' : World} (h : w'.heap = w.heap) (a : Addr) : w'.cell? a = w.cell? a := by unfold World.cell?; rw [h]
/-- What append and copy take of a slice or a string. -/
theorem firstCells_ok (h : Rep ρ H w) {v : AV} {u : Value} {sz n : Nat} {cs : List AV} (hf : firstCells H sz n v = some cs) (hv : RV ρ v u) {m : Nat} (hl : lenOfA v = some m) (hnm : n ≤ m) :
    ∃ us : List Value, (∀ w' : World, w'.heap = w.heap → (Builtin.firstCells sz n u).run P w' = .ok us.toArray w') ∧ All2 (RV ρ) cs us ∧ (∀ x ∈ us, Scalar x) ∧ us.length = n * sz := by
  cases v
  case slice b off len cap =>
    obtain ⟨r, base, en, k, hr, rfl, hle, _⟩ := slice_rel hv
    obtain ⟨hb, h1⟩ := iteB_some (b := Nat.ble n len) hf
    obtain ⟨us, hlen, hall, hsc, hc⟩ := h.cellsAt hr h1
    have hlen : us.length = n * sz := hlen
    refine ⟨us, fun w' hw' => ?_, hall, hsc, hlen⟩
    unfold Builtin.firstCells
    rw [← hlen]
    exact run_loadCells_us fun j x hx => by rw [cell_heap hw']; exact hc j x hx
  case nils =>
    injection hf with hf; subst hf
    injection hl with hl; subst hl
    have : n = 0 := by omega
    subst this
    cases hv
    exact ⟨[], fun w' _ => rfl, .nil, by simp, by simp⟩
  case str s =>
    obtain ⟨hb, h1⟩ := iteB_some (b := Nat.beq sz 1) hf
    obtain ⟨k, hk, h2⟩ := ob_some h1
    have hb := beq_eq hb
    subst hb
    obtain ⟨e1, e2⟩ := takeL_some _ _ _ hk
    subst e1
    cases hv with
    | str b =>
      rw [natsOf_size] at e2
      have hall := mapO_some _ _ h2
      refine ⟨((b.extract 0 n).data.map fun c => Value.int .u8 c.toNat).toList, fun w' _ => ?_, ?_, ?_, ?_⟩
      · show Sem.run P (pure ((b.extract 0 n).data.map fun c => Value.int .u8 c.toNat)) w' = _
        rw [Sem.run_pure, Array.toArray_toList]
      · have e3 : (natsOf b.data.toList).take n = natsOf (b.extract 0 n).data.toList := by rw [natsOf_extract]; simp
        rw [e3] at hall
        have key : ∀ (l : List UInt8) (r : List AV), All2 (fun a b => byteAV a = some b) (natsOf l) r → All2 (RV ρ) r (l.map fun c => Value.int .u8 c.toNat) := by
          intro l
          induction l with
          | nil => intro r hr; cases hr; exact .nil
          | cons c l ih =>
            intro r hr
            cases hr with
            | cons hab hl => injection hab with hab; subst hab; exact .cons (.int _ _) (ih _ hl)
        have := key _ _ hall
        simpa using this
      · intro x hx
        rw [Array.mem_toList_iff] at hx
        obtain ⟨c, _, rfl⟩ := Array.mem_map.1 hx
        exact ⟨by simp, by simp⟩
      · simp; omega
  all_goals cases hf
theorem growSize_inv {el : TypeId} {sz : Nat} (h : growSize P el = some sz) : ∃ i z us zv, P.info? el = some i ∧ i.size = sz ∧ sz ≠ 0 ∧ i.bytes ≤ 65536 ∧ i.bytes ≠ 0 ∧ zeroCells P el = some z ∧
    (∀ w : World, (zeroValue el).run P w = .ok zv w) ∧ zv.cells = List.toArray us ∧ us.length = sz ∧ ∀ u ∈ us, Scalar u := by
  obtain ⟨i, hi, h1⟩ := ob_some h
  obtain ⟨z, hz, h2⟩ := ob_some h1
  obtain ⟨b1, h3⟩ := iteB_some h2
  obtain ⟨b2, h4⟩ := iteB_none h3
  obtain ⟨b3, h5⟩ := iteB_some h4
  obtain ⟨b4, h6⟩ := iteB_none h5
  injection h6 with h6; subst h6
  obtain ⟨zv, us, hzv, hc, hall, hsc⟩ := zeroCells_inv hz
  have hl := beq_eq b1
  rw [lenL_zero, (hall (fun _ => none)).length] at hl
  exact ⟨i, z, us, zv, hi, rfl, beq_ne b2, ble_le b3, beq_ne b4, hz, hzv, hc, hl, hsc⟩
theorem next_cap {need old : Nat} (h : old < need) (hn : need ≤ 134217728) : Builtin.nextslicecap need old ≤ 1073741824 := by
  unfold Builtin.nextslicecap
  split
  · omega
  · split
    · omega
    · simp only [Builtin.growBy]
      (repeat' split) <;> omega
/-- append where it must grow. -/
theorem grow_run {t el : TypeId} {sz : Nat} (hel : P.underlying t = some (.slice el)) (hg : growSize P el = some sz) {argTypes : Array TypeId} {ty t2 : TypeId} {d2 : TypeDesc} (h1 : argTypes[0]? = some t) (h2 : argTypes[1]? = some t2)
    (hd2 : P.underlying t2 = some d2) (hni : isIntD d2 = false) {a : Option Addr} {len cap n : Nat} {x : Value} {old new : List Value} (hold : ∀ w' : World, w'.heap = w.heap → (Builtin.firstCells sz len (.slice a len cap)).run P w' = .ok old.toArray w')
    (hnew : ∀ w' : World, w'.heap = w.heap → (Builtin.firstCells sz n x).run P w' = .ok new.toArray w') (hlx : ∀ w : World, (Builtin.lenOf x).run P w = .ok n w) (hlen : len ≤ 67108864) (hn : n ≤ 67108864) (hcap : cap < len + n) :
    ∃ (c : Nat) (w1 : World) (rest : List Value), len + n ≤ c ∧ Same w w1 ∧ rest.length = (c - (len + n)) * sz ∧
      ∀ w2, (newRow el (old ++ new ++ rest).toArray).run P w1 = .ok ⟨w.heap.size, 0, none⟩ w2 →
        (Builtin.append_ argTypes ty #[.slice a len cap, x]).run P w = .ok (.slice (some ⟨w.heap.size, 0, none⟩) (len + n) c) w2 := by
  obtain ⟨i, z, us, zv, hi, hsz, hs0, hb, hb0, hz, hzv, hzc, hul, hus⟩ := growSize_inv hg
  have hsize : size P el = some sz := by simp [size, hi, hsz]
  let w1 : World := { w with drawn := w.drawn + 1 }
  let c := Question.cut (.appendCap (len + n) cap el) (w.tape w.drawn (.appendCap (len + n) cap el))
  have hc : len + n ≤ c := by show len + n ≤ (len + n) + _; omega
  refine ⟨c, w1, (List.replicate (c - (len + n)) us).flatten, hc, ⟨rfl, rfl, rfl⟩, by simp [hul], fun w2 hrun => ?_⟩
  have a0 : (#[Value.slice a len cap, x] : Array Value)[0]? = some (.slice a len cap) := rfl
  have a1 : (#[Value.slice a len cap, x] : Array Value)[1]? = some x := rfl
  have hnle : ¬ (len + n ≤ cap) := by omega
  have hmax : ¬ (((len + n : Nat) : Int) > IntKind.i64.max) := by
    have e1 : IntKind.i64.max = 9223372036854775807 := by decide
    rw [e1]; omega
  have hnc : ¬ (Builtin.nextslicecap (len + n) cap * i.bytes > 2 ^ 48) := by
    have h3 := next_cap hcap (by omega)
    have : Builtin.nextslicecap (len + n) cap * i.bytes ≤ 1073741824 * 65536 := Nat.mul_le_mul h3 hb
    have h4 : (1073741824 * 65536 : Nat) ≤ 2 ^ 48 := by decide
    omega
  have hch : (choose (.appendCap (len + n) cap el)).run P w = .ok c w1 := rfl
  have ho := hold w1 rfl
  have hn' := hnew w1 rfl
  have hrest : Builtin.zeroCells zv.cells (c - (len + n)) = ((List.replicate (c - (len + n)) us).flatten).toArray := by
    unfold Builtin.zeroCells
    rw [hzc]
    have e1 : us.toArray.size = us.length := by simp
    rw [e1]
    exact range_row _ us (.inr (by intro e; subst e; simp at hul; exact hs0 hul.symm))
  have hcat : old.toArray ++ new.toArray ++ ((List.replicate (c - (len + n)) us).flatten).toArray = (old ++ new ++ (List.replicate (c - (len + n)) us).flatten).toArray := by simp
  unfold Builtin.append_
  simp only [h1, a0, a1]
  simp only [Sem.run_bind, run_underlying hel w, Result.andThen_ok, run_sizeOf' hsize w, h2, run_underlying hd2 w, Sem.run_pure]
  cases d2 <;> first
    | (simp only [Bool.false_eq_true, if_false, false_or, Bool.not_false, if_true, Sem.run_bind, hlx w, Result.andThen_ok, hnle, run_typeInfo' hi w, run_typeInfo' hi w1, hmax, false_and, hnc, hch, run_askRoom, ho, hn', hzv w1, hrest, hcat, hrun, Sem.run_pure]; done)
    | cases hni
/-- append within the capacity. -/
theorem fits_run {t el : TypeId} {sz : Nat} (hel : P.underlying t = some (.slice el)) (hsize : size P el = some sz) {argTypes : Array TypeId} {ty t2 : TypeId} {d2 : TypeDesc} (h1 : argTypes[0]? = some t) (h2 : argTypes[1]? = some t2)
    (hd2 : P.underlying t2 = some d2) (hni : isIntD d2 = false) {a : Option Addr} {len cap n : Nat} {x : Value} {new : List Value}
    (hnew : (Builtin.firstCells sz n x).run P w = .ok new.toArray w) (hlx : ∀ w : World, (Builtin.lenOf x).run P w = .ok n w) (hcap : len + n ≤ cap) {w' : World}
    (hst : match a with | some p => (storeCells (p.add (len * sz)) new).run P w = .ok () w' | none => w' = w) :
    (Builtin.append_ argTypes ty #[.slice a len cap, x]).run P w = .ok (.slice a (len + n) cap) w' := by
  have a0 : (#[Value.slice a len cap, x] : Array Value)[0]? = some (.slice a len cap) := rfl
  have a1 : (#[Value.slice a len cap, x] : Array Value)[1]? = some x := rfl
  unfold Builtin.append_
  simp only [h1, a0, a1]
  simp only [Sem.run_bind, run_underlying hel w, Result.andThen_ok, run_sizeOf' hsize w, h2, run_underlying hd2 w, Sem.run_pure]
  cases a with
  | none =>
    simp only at hst
    subst hst
    cases d2 <;> first
      | (simp only [Bool.false_eq_true, if_false, Bool.not_false, if_true, Sem.run_bind, hlx w', Result.andThen_ok, hcap, hnew, Sem.run_pure]; done)
      | cases hni
  | some p =>
    simp only at hst
    cases d2 <;> first
      | (simp only [Bool.false_eq_true, if_false, Bool.not_false, if_true, Sem.run_bind, hlx w, Result.andThen_ok, hcap, hnew, hst, Sem.run_pure]; done)
      | cases hni
/-- append: a new block for the old cells and the new ones. -/
theorem grow_ok (h : Rep ρ H w) {t el : TypeId} {sz : Nat} (hel : P.underlying t = some (.slice el)) (hg : growSize P el = some sz) {argTypes : Array TypeId} {ty t2 : TypeId} {d2 : TypeDesc} (h1 : argTypes[0]? = some t) (h2 : argTypes[1]? = some t2)
    (hd2 : P.underlying t2 = some d2) (hni : isIntD d2 = false) {a : Option Addr} {len cap n : Nat} {x : Value} {oldA newA : List AV} {old new : List Value} (hold : ∀ w' : World, w'.heap = w.heap → (Builtin.firstCells sz len (.slice a len cap)).run P w' = .ok old.toArray w')
    (hoA : All2 (RV ρ) oldA old) (hoS : ∀ u ∈ old, Scalar u) (hoL : old.length = len * sz)
    (hnew : ∀ w' : World, w'.heap = w.heap → (Builtin.firstCells sz n x).run P w' = .ok new.toArray w') (hnA : All2 (RV ρ) newA new) (hnS : ∀ u ∈ new, Scalar u) (hnL : new.length = n * sz)
    (hlx : ∀ w : World, (Builtin.lenOf x).run P w = .ok n w) (hlen : len ≤ 67108864) (hn : n ≤ 67108864) (hcap : cap < len + n) {o : AO} (ho : Content o (oldA ++ newA)) {H' : Hp} (ha : H.alloc o = some H') :
    ∃ ρ' w' u, (Builtin.append_ argTypes ty #[.slice a len cap, x]).run P w = .ok u w' ∧ Rep ρ' H' w' ∧ Ext ρ H w ρ' H' w' ∧ RV ρ' (.slice H.next 0 (len + n) (.opn sz)) u := by
  obtain ⟨c, w1, rest, hc, hs, hrl, hrun⟩ := grow_run (P := P) (ty := ty) hel hg h1 h2 hd2 hni hold hnew hlx hlen hn hcap
  obtain ⟨i, z, us, zv, hi, hsz, hs0, hb, hb0, hz, hzv, hzc, hul, hus⟩ := growSize_inv hg
  obtain ⟨ρ', w', hrun', hrep, hext, hr⟩ := newRow_ok (P := P) (h.same hs) ho (hoA.append hnA) (by intro u hu; rcases List.mem_append.1 hu with hu | hu; exact hoS u hu; exact hnS u hu) ha el rest
  have hsize : w1.heap.size = w.heap.size := by rw [hs.1]
  rw [hsize] at hrun' hr
  refine ⟨ρ', w', _, hrun w' hrun', hrep, (Ext.of_same hs).trans hext, ?_⟩
  refine .sopn (s := sz) hr hc ?_ (by omega)
  have e1 : (old ++ new).length + rest.length = c * sz := by
    rw [List.length_append, hoL, hnL, hrl, Nat.sub_mul, Nat.add_mul]
    have : len * sz + n * sz ≤ c * sz := by rw [← Nat.add_mul]; exact Nat.mul_le_mul_right _ hc
    omega
  simp only [Nat.add_zero, Nat.zero_add]
  exact e1.symm
/-- The block goes over into a new one: in place. -/
theorem Rep.move (h : Rep ρ H w) {b r base en : Nat} (hb : Lv (H.fn b)) (hr : ρ b = some (r, base, en)) {H1 H' : Hp} (hk : H.put b .dead = some H1) {o : AO} (ha : H1.alloc o = some H') (hd : Lv o) (off : Nat) {ob : Obj}
    (ho : RO (ρ.put H.next (r, base + off, en)) o (base + off) en ob) : Rep (ρ.put H.next (r, base + off, en)) H' (World.setObj w r ob) ∧ Ext ρ H w (ρ.put H.next (r, base + off, en)) H' (World.setObj w r ob) := by
  obtain ⟨hn1, hf1⟩ := Hp.put_fn hk
  obtain ⟨hn2, hf2⟩ := Hp.alloc_fn ha
  have hlt := h.blk_lt hb hr
  have hnone := h.nxt H.next (Nat.le_refl _)
  have hbn : b ≠ H.next := by have := h.lt hb; omega
  have hsub : ρ.sub (ρ.put H.next (r, base + off, en)) := Rho.sub_put hnone
  have hfn : ∀ c, H'.fn c = if c = H.next then o else if c = b then .dead else H.fn c := by
    intro c
    rw [hf2, hn1, hf1]
  have hold : ∀ c, c ≠ H.next → Lv (H'.fn c) → c ≠ b ∧ Lv (H.fn c) ∧ H'.fn c = H.fn c := by
    intro c hc hc'
    have := hfn c
    rw [if_neg hc] at this
    by_cases hcb : c = b
    · rw [if_pos hcb] at this; rw [this] at hc'; exact hc'.elim
    · rw [if_neg hcb] at this; exact ⟨hcb, this ▸ hc', this⟩
  have hother : ∀ c r' x, c ≠ H.next → Lv (H'.fn c) → (ρ.put H.next (r, base + off, en)) c = some (r', x) → r' ≠ r ∧ ρ c = some (r', x) := by
    intro c r' x hc hc' hr'
    simp only [Rho.put, if_neg hc] at hr'
    obtain ⟨h1, h2, h3⟩ := hold c hc hc'
    exact ⟨h.inj c b r' x r _ h2 hb hr' hr h1, hr'⟩
  have hext : Ext ρ H w (ρ.put H.next (r, base + off, en)) H' (World.setObj w r ob) := by
    refine ⟨hsub, by omega, by simp [World.setObj], fun r1 hr1 hu => ⟨?_, fun c r2 x hc hr2 => ?_⟩, rfl, rfl, fun c n d t hc => ?_⟩
    · have hne : r ≠ r1 := hu b r _ hb hr
      simp only [World.setObj, Array.getElem?_setIfInBounds_ne hne]
    · by_cases hcn : c = H.next
      · simp only [Rho.put, hcn, if_true, Option.some.injEq, Prod.mk.injEq] at hr2
        have := hu b r _ hb hr
        intro e; exact this (hr2.1.trans e)
      · have a1 := (hother c r2 x hcn hc hr2).2
        exact hu c r2 x (hold c hcn hc).2.1 a1
    · rw [hfn] at hc
      by_cases hcn : c = H.next
      · rw [if_pos hcn] at hc; rw [hc] at hd; exact hd.elim
      · rw [if_neg hcn] at hc
        by_cases hcb : c = b
        · rw [if_pos hcb] at hc; cases hc
        · rw [if_neg hcb] at hc; exact hc
  refine ⟨⟨fun c hc => ?_, fun c c' r1 x1 r2 x2 hc hc' hr1 hr2 hne => ?_, fun c hc => ?_, h.rdx hext⟩, hext⟩
  · by_cases hcn : c = H.next
    · subst hcn
      refine ⟨r, base + off, en, ob, by simp [Rho.put], by simp [World.setObj, hlt], ?_⟩
      rw [hfn, if_pos rfl]; exact ho
    · obtain ⟨h1, h2, h3⟩ := hold c hcn hc
      obtain ⟨r', base', e', ob', q1, q2, q3⟩ := h.live c h2
      have hne : r' ≠ r := h.inj c b r' _ r _ h2 hb q1 hr h1
      refine ⟨r', base', e', ob', by simp [Rho.put, hcn, q1], ?_, ?_⟩
      · simp only [World.setObj, Array.getElem?_setIfInBounds_ne (Ne.symm hne)]; exact q2
      · rw [h3]; exact q3.mono hsub
  · by_cases hcn : c = H.next
    · have hcn' : c' ≠ H.next := fun e => hne (hcn.trans e.symm)
      simp only [Rho.put, hcn, if_true, Option.some.injEq, Prod.mk.injEq] at hr1
      have := (hother c' r2 x2 hcn' hc' hr2).1
      intro e; exact this (e ▸ hr1.1.symm)
    · by_cases hcn' : c' = H.next
      · simp only [Rho.put, hcn', if_true, Option.some.injEq, Prod.mk.injEq] at hr2
        have := (hother c r1 x1 hcn hc hr1).1
        intro e; exact this (e.trans hr2.1.symm)
      · have a1 := (hother c r1 x1 hcn hc hr1).2
        have a2 := (hother c' r2 x2 hcn' hc' hr2).2
        exact h.inj c c' r1 x1 r2 x2 (hold c hcn hc).2.1 (hold c' hcn' hc').2.1 a1 a2 hne
  · have : c ≠ H.next := by omega
    simp only [Rho.put, if_neg this]
    exact h.nxt c (by omega)
end Go.Vex
namespace Go.Vex
variable {P : Program} {ρ : Rho} {H : Hp} {w : World} {e : Env} {σ : Operand → Value}
theorem setObj_self {r : Nat} {c : Array Value} {el : TypeId} {fz : Nat × Nat} (hw : w.heap[r]? = some (.cells c el fz)) : World.setObj w r (.cells c el fz) = w := by
  unfold World.setObj
  have hr : r < w.heap.size := (Array.getElem?_eq_some_iff.1 hw).1
  have hv : w.heap[r] = .cells c el fz := (Array.getElem?_eq_some_iff.1 hw).2
  have : w.heap.setIfInBounds r (.cells c el fz) = w.heap := by
    apply Array.ext
    · simp
    · intro i h1 h2
      by_cases e : r = i
      · subst e; simp [hv]
      · rw [Array.getElem_setIfInBounds_ne (by simpa using h2) e]
  rw [this]
theorem storeC_run {r p : Nat} {el : TypeId} {fz : Nat × Nat} : ∀ (us : List Value), (∀ u ∈ us, Scalar u) → ∀ (j : Nat) (c : Array Value) (w : World), w.heap[r]? = some (.cells c el fz) → (∀ i, i < c.size → ¬ (fz.1 ≤ i ∧ i < fz.2)) → p + j + us.length ≤ c.size →
    ∃ c', (storeCells ⟨r, p, none⟩ us j).run P w = .ok () (World.setObj w r (.cells c' el fz)) ∧ c'.size = c.size ∧ ∀ i, c'[i]? = if p + j ≤ i ∧ i < p + j + us.length then us[i - (p + j)]? else c[i]? := by
  intro us
  induction us with
  | nil => intro _ j c w hw _ _; exact ⟨c, by rw [setObj_self hw]; rfl, rfl, fun i => by rw [if_neg (by simp)]⟩
  | cons u us ih =>
    intro hs j c w hw hfz hsz
    simp only [List.length_cons] at hsz
    have hu : Scalar u := hs u (by simp)
    have hi : p + j < c.size := by omega
    have hr : r < w.heap.size := (Array.getElem?_eq_some_iff.1 hw).1
    obtain ⟨c', hrun, hsz', hc'⟩ := ih (fun u hu => hs u (by simp [hu])) (j + 1) (c.setIfInBounds (p + j) u) (World.setObj w r (.cells (c.setIfInBounds (p + j) u) el fz))
      (setObj_get hr) (by simpa using hfz) (by simp; omega)
    refine ⟨c', ?_, by simpa using hsz', fun i => ?_⟩
    · have hst : (store ((Addr.mk r p none).add j) u).run P w = .ok () (World.setObj w r (.cells (c.setIfInBounds (p + j) u) el fz)) := by
        rw [run_store P w _ u _ (scalar_oneCell hu), add_mk]
        have hcell : w.cell? ⟨r, p + j, none⟩ = some (c[p + j]) := by
          simp only [World.cell?, hw]; simp [hi]
        have hfr : w.frozen? ⟨r, p + j, none⟩ = false := by
          have := hfz (p + j) hi
          obtain ⟨lo, hi'⟩ := fz
          simp only [World.frozen?, hw]
          simp only [Bool.and_eq_false_iff, decide_eq_false_iff_not]
          omega
        rw [hcell]
        show (if w.frozen? ⟨r, p + j, none⟩ = true then _ else Result.ok () (w.setCell ⟨r, p + j, none⟩ u)) = _
        rw [hfr, setCell_eq hw]; rfl
      show (store ((Addr.mk r p none).add j) u >>= fun _ => storeCells ⟨r, p, none⟩ us (j + 1)).run P w = _
      rw [Sem.run_bind, hst, Result.andThen_ok, hrun, setObj_setObj]
    · rw [hc' i]
      by_cases e : i = p + j
      · subst e
        rw [if_neg (by omega), if_pos (by simp)]
        simp [hi]
      · by_cases h3 : p + (j + 1) ≤ i ∧ i < p + (j + 1) + us.length
        · rw [if_pos h3, if_pos (by simp; omega)]
          have : i - (p + j) = (i - (p + (j + 1))) + 1 := by omega
          rw [this]; simp
        · rw [if_neg h3, if_neg (by simp; omega), Array.getElem?_setIfInBounds_ne (by omega)]
theorem Ext.kill (h : Rep ρ H w) {b : Nat} {H1 : Hp} (hk : H.put b .dead = some H1) : Ext ρ H w ρ H1 w := (h.kill hk).2.2
theorem liveC_fn {b i : Nat} {u : Unit} (h : liveC H b i = some u) : ∃ nn d t, H.fn b = .cells nn d t := by
  obtain ⟨o, ho, h⟩ := ob_some h
  cases o with
  | cells n d t => exact ⟨n, d, t, Hp.fn_of_obj ho⟩
  | _ => cases h
/-- append to a slice whose capacity is open. -/
theorem opn_ok (h : Rep ρ H w) {t el : TypeId} {sz : Nat} (hel : P.underlying t = some (.slice el)) (hg : growSize P el = some sz) {argTypes : Array TypeId} {ty t2 : TypeId} {d2 : TypeDesc} (h1 : argTypes[0]? = some t) (h2 : argTypes[1]? = some t2)
    (hd2 : P.underlying t2 = some d2) (hni : isIntD d2 = false) {b off len n k r base en : Nat} (hr : ρ b = some (r, base, en)) (hle : len ≤ k) (hend : base + off + k * sz = en) {x : Value} {oldA newA : List AV} {new : List Value}
    (hlive : ∃ nn d t, H.fn b = .cells nn d t) (hold : H.loadN b off (len * sz) = some oldA)
    (hnew : ∀ w' : World, w'.heap = w.heap → (Builtin.firstCells sz n x).run P w' = .ok new.toArray w') (hnA : All2 (RV ρ) newA new) (hnS : ∀ u ∈ new, Scalar u) (hnL : new.length = n * sz)
    (hlx : ∀ w : World, (Builtin.lenOf x).run P w = .ok n w) (hlen : len ≤ 67108864) (hn : n ≤ 67108864) {o : AO} (ho : Content o (oldA ++ newA)) {H1 H' : Hp} (hk : H.put b .dead = some H1) (ha : H1.alloc o = some H') :
    ∃ ρ' w' u, (Builtin.append_ argTypes ty #[.slice (some ⟨r, base + off, none⟩) len k, x]).run P w = .ok u w' ∧ Rep ρ' H' w' ∧ Ext ρ H w ρ' H' w' ∧ RV ρ' (.slice H.next 0 (len + n) (.opn sz)) u := by
  obtain ⟨old, hoL, hoA, hoS, hoc⟩ := h.cellsAt hr hold
  obtain ⟨nn, d, tt, hfb⟩ := hlive
  have hkn : off + len * sz ≤ nn := by
    obtain ⟨n', d', t', hf', hk', _⟩ := loadN_inv hold
    rcases hf' with hf' | hf' <;> rw [hfb] at hf'
    · injection hf' with e1; omega
    · cases hf'
  have hnd : Lv (H.fn b) := by rw [hfb]; simp
  have hn1 := (Hp.put_fn hk).1
  by_cases hfit : len + n ≤ k
  · -- in place
    obtain ⟨obj, hob, hro⟩ := h.at_ hnd hr
    rw [hfb] at hro
    cases hro with
    | cells g1 g2 g3 g4 =>
      rename_i c ell fz
      obtain ⟨i, z, us, zv, hi, hsz, hs0, hb, hb0, hz, hzv, hzc, hul, hus⟩ := growSize_inv hg
      have hmul : (len + n) * sz ≤ k * sz := Nat.mul_le_mul_right _ hfit
      have hadd : (len + n) * sz = len * sz + n * sz := Nat.add_mul _ _ _
      obtain ⟨c', hrun, hsz', hc'⟩ := storeC_run (P := P) (r := r) (p := base + off + len * sz) (el := ell) (fz := fz) new hnS 0 c w hob (fz_free g4) (by omega)
      obtain ⟨dd, tt', rfl, hcont⟩ := ho
      have hnone := h.nxt H.next (Nat.le_refl _)
      have hsub : ρ.sub (ρ.put H.next (r, base + off, en)) := Rho.sub_put hnone
      have hall := hoA.append hnA
      have hmove := h.move hnd hr hk ha (by simp) off (ob := .cells c' ell fz) (.cells (by omega) (by rw [List.length_append, hoA.length, hoL, hnA.length, hnL]; omega) (fun j hj => by
        have hj2 : j < (old ++ new).length := by rw [← hall.length]; exact hj
        obtain ⟨u, hu, hau⟩ := hall.get j _ (List.getElem?_eq_getElem hj)
        refine ⟨_, u, hcont j _ (List.getElem?_eq_getElem hj), ?_, hau.mono hsub, ?_⟩
        · rw [hc' (base + off + j)]
          by_cases hjo : j < old.length
          · rw [if_neg (by omega)]
            rw [List.getElem?_append_left hjo] at hu
            have := hoc j u hu
            simp only [World.cell?, hob] at this
            simpa using this
          · rw [List.getElem?_append_right (by omega)] at hu
            have hjl : j - old.length < new.length := (List.getElem?_eq_some_iff.1 hu).1
            rw [if_pos (by omega)]
            have : base + off + j - (base + off + len * sz + 0) = j - old.length := by omega
            rw [this]; exact hu
        · have := List.mem_of_getElem? hu
          rcases List.mem_append.1 this with hm | hm
          · exact hoS u hm
          · exact hnS u hm) (by rw [hsz']; exact g4))
      refine ⟨_, _, .slice (some ⟨r, base + off + 0, none⟩) (len + n) k, ?_, hmove.1, hmove.2, .sopn (r := r) (base := base + off) (e := en) (by simp [Rho.put]) hfit (by omega) (by omega)⟩
      have hsize : size P el = some sz := by simp [size, hi, hsz]
      refine fits_run (P := P) (ty := ty) hel hsize h1 h2 hd2 hni (hnew w rfl) hlx hfit ?_
      simp only [add_mk]
      exact hrun
  · -- it grows
    have hkill := h.kill hk
    obtain ⟨ρ', w', u, q1, q2, q3, q4⟩ := grow_ok (P := P) (ty := ty) hkill.1 hel hg h1 h2 hd2 hni (a := some ⟨r, base + off, none⟩) (len := len) (cap := k) (fun w' hw' => by
      unfold Builtin.firstCells
      rw [← hoL]
      exact run_loadCells_us fun j x hx => by rw [cell_heap hw']; exact hoc j x hx) hoA hoS hoL hnew hnA hnS hnL hlx hlen hn (by omega) ho ha
    rw [hn1] at q4
    exact ⟨ρ', w', u, q1, q2, (Ext.kill h hk).trans q3, q4⟩
theorem loadT_total {d : AV} {t : T AV} : ∀ (k i : Nat), ∃ vs, loadT d t k i = some vs := by
  intro k
  induction k with
  | zero => intro i; exact ⟨[], rfl⟩
  | succ k ih =>
    intro i
    obtain ⟨v, hv⟩ := T.get_some d t i
    obtain ⟨vs, hvs⟩ := ih (i + 1)
    refine ⟨v :: vs, ?_⟩
    show (ob (t.get d i) fun v => ob (loadT d t k (i + 1)) fun r => some (v :: r)) = _
    rw [hv, ob_mk, hvs]; rfl
theorem appendA_ok (h : Rep ρ H w) {t el : TypeId} (hel : P.underlying t = some (.slice el)) {argTypes : Array TypeId} {ty t2 : TypeId} {d2 : TypeDesc} (h1 : argTypes[0]? = some t) (h2 : argTypes[1]? = some t2)
    (hd2 : P.underlying t2 = some d2) (hni : isIntD d2 = false) {s x : AV} {us ux : Value} (hs : RV ρ s us) (hx : RV ρ x ux) {r : OR} (hh : appendA P H el s x = some r) :
    ∃ v H' ρ' w' u, r = .val v H' ∧ (Builtin.append_ argTypes ty #[us, ux]).run P w = .ok u w' ∧ Rep ρ' H' w' ∧ Ext ρ H w ρ' H' w' ∧ RV ρ' v u := by
  obtain ⟨sz, hg, g1⟩ := ob_some hh
  obtain ⟨n, hn, g2⟩ := ob_some g1
  obtain ⟨b1, g3⟩ := iteB_some g2
  obtain ⟨m, hm, g4⟩ := ob_some g3
  obtain ⟨b2, g5⟩ := iteB_some g4
  obtain ⟨newA, hnew, g6⟩ := ob_some g5
  clear hh g1 g2 g3 g4 g5
  have b1 := ble_le b1
  have b2 := ble_le b2
  obtain ⟨i, z, uz, zv, hi, hsz, hs0, hb, hb0, hz, hzv, hzc, hul, hus⟩ := growSize_inv hg
  have hsize : size P el = some sz := by simp [size, hi, hsz]
  obtain ⟨new, hnr, hnA, hnS, hnL⟩ := firstCells_ok (P := P) h hnew hx hn (Nat.le_refl _)
  have hlx := fun w => lenOf_ok (P := P) hn hx w
  cases s
  case nils =>
    cases hs
    have g7 : iteB (Nat.beq n 0) (valH H .nils) (ob (ofList newA) fun o => allocV H o (.slice H.next 0 n (.opn sz))) = some r := g6
    cases hz0 : Nat.beq n 0 with
    | true =>
      rw [hz0] at g7
      have := valH_inv (H := H) g7
      subst this
      have e0 := beq_eq hz0
      subst e0
      exact ⟨_, _, ρ, w, _, rfl, fits_run (P := P) (ty := ty) hel hsize h1 h2 hd2 hni (hnr w rfl) hlx (Nat.le_refl _) (a := none) rfl, h, Ext.refl _ _ _, .nils⟩
    | false =>
      rw [hz0] at g7
      obtain ⟨o, ho, g8⟩ := ob_some (x := ofList newA) g7
      obtain ⟨H', ha, rfl⟩ := allocV_inv g8
      have hpos : 0 < n := by have := beq_ne hz0; omega
      obtain ⟨ρ', w', u, q1, q2, q3, q4⟩ := grow_ok (P := P) (ty := ty) h hel hg h1 h2 hd2 hni (a := none) (len := 0) (cap := 0) (old := []) (oldA := []) (fun w' _ => rfl) .nil (by simp) (by simp) hnr hnA hnS hnL hlx (by omega) b1 (by omega) (by simpa using ofList_content ho) ha
      rw [Nat.zero_add] at q4
      exact ⟨_, _, ρ', w', u, rfl, q1, q2, q3, q4⟩
  case slice b off len cap =>
    obtain ⟨rr, base, en, k, hr, rfl, hle, hcap⟩ := slice_rel hs
    have em : m = len := by injection hm with hm; exact hm.symm
    subst em
    have growcase : growA H sz b off m n newA = some r → k < m + n → ∃ v H' ρ' w' u, r = .val v H' ∧ (Builtin.append_ argTypes ty #[.slice (some ⟨rr, base + off, none⟩) m k, ux]).run P w = .ok u w' ∧ Rep ρ' H' w' ∧ Ext ρ H w ρ' H' w' ∧ RV ρ' v u := by
      intro g7 hk
      obtain ⟨oldA, hold, g8⟩ := ob_some g7
      obtain ⟨cs, hcs, g9⟩ := ob_some g8
      obtain ⟨o, ho, g10⟩ := ob_some g9
      obtain ⟨H', ha, rfl⟩ := allocV_inv g10
      have := app_some _ _ _ hcs
      subst this
      obtain ⟨old, hoL, hoA, hoS, hoc⟩ := h.cellsAt hr hold
      obtain ⟨ρ', w', u, q1, q2, q3, q4⟩ := grow_ok (P := P) (ty := ty) h hel hg h1 h2 hd2 hni (a := some ⟨rr, base + off, none⟩) (len := m) (cap := k) (fun w' hw' => by
        unfold Builtin.firstCells
        have hoL' : old.length = m * sz := hoL
        rw [← hoL']
        exact run_loadCells_us fun j x hx => by rw [cell_heap hw']; exact hoc j x hx) hoA hoS hoL hnr hnA hnS hnL hlx b2 b1 hk (ofList_content ho) ha
      exact ⟨_, _, ρ', w', u, rfl, q1, q2, q3, q4⟩
    cases cap with
    | fix k' =>
      have hcap' : k = k' := hcap
      subst hcap'
      have g7 : iteB (Nat.ble (Nat.add m n) k) (ob (H.storeN b (Nat.add off (Nat.mul m sz)) newA) fun H' => valH H' (.slice b off (Nat.add m n) (.fix k))) (growA H sz b off m n newA) = some r := g6
      cases hfit : Nat.ble (Nat.add m n) k with
      | true =>
        rw [hfit] at g7
        obtain ⟨H', hst, g8⟩ := ob_some (x := H.storeN b (Nat.add off (Nat.mul m sz)) newA) g7
        have := valH_inv g8
        subst this
        have hfit := ble_le hfit
        obtain ⟨w', hrun, hrep, hext⟩ := h.store (P := P) hr hst hnA hnS
        refine ⟨_, _, ρ, w', .slice (some ⟨rr, base + off, none⟩) (m + n) k, rfl, ?_, hrep, hext, .sfix hr hfit⟩
        refine fits_run (P := P) (ty := ty) hel hsize h1 h2 hd2 hni (hnr w rfl) hlx hfit ?_
        simp only [add_mk]
        have : base + off + m * sz = base + (Nat.add off (Nat.mul m sz)) := Nat.add_assoc _ _ _
        rw [this]; exact hrun
      | false =>
        rw [hfit] at g7
        exact growcase g7 (ble_gt hfit)
    | opn st =>
      obtain ⟨hend, hst⟩ : base + off + k * st = en ∧ 0 < st := hcap
      have g7 : iteB (Nat.beq n 0) (valH H (.slice b off m (.opn st))) (iteB (Nat.beq st sz) (orElseO (iteB (Nat.beq off 0) (ob (H.obj b) fun o => appMove H sz n newA b m o) none) (appCopy H sz n newA b off m)) none) = some r := g6
      cases hz0 : Nat.beq n 0 with
      | true =>
        rw [hz0] at g7
        have := valH_inv (H := H) g7
        subst this
        have e0 := beq_eq hz0
        subst e0
        have hnil : new = [] := List.length_eq_zero_iff.1 (by rw [hnL]; simp)
        refine ⟨_, _, ρ, w, .slice (some ⟨rr, base + off, none⟩) m k, rfl, ?_, h, Ext.refl _ _ _, .sopn hr hle hend hst⟩
        exact fits_run (P := P) (ty := ty) (n := 0) hel hsize h1 h2 hd2 hni (hnr w rfl) hlx hle (by subst hnil; rfl)
      | false =>
        rw [hz0] at g7
        obtain ⟨b3, g8⟩ := iteB_some (b := Nat.beq st sz) g7
        have b3 := beq_eq b3
        subst b3
        have opn := fun (oldA : List AV) (o : AO) (H1 H' : Hp) (hlive : ∃ nn d t, H.fn b = .cells nn d t) (hold : H.loadN b off (m * st) = some oldA) (ho : Content o (oldA ++ newA)) (hk : H.put b .dead = some H1) (ha : H1.alloc o = some H') =>
          opn_ok (P := P) (ty := ty) h hel hg h1 h2 hd2 hni hr hle hend hlive hold hnr hnA hnS hnL hlx b2 b1 ho hk ha
        rcases orElseO_some g8 with g9 | ⟨_, g9⟩
        · obtain ⟨b4, g10⟩ := iteB_some g9
          have b4 := beq_eq b4
          subst b4
          obtain ⟨ob, hob, g11⟩ := ob_some g10
          cases ob with
          | cells mm d tt =>
            obtain ⟨b5, g12⟩ := iteB_some (b := Nat.beq mm (Nat.mul m st)) g11
            obtain ⟨t', ht', g13⟩ := ob_some g12
            obtain ⟨H1, hk, g14⟩ := ob_some g13
            obtain ⟨H', ha, rfl⟩ := allocV_inv g14
            have b5 := beq_eq b5
            have b5 : mm = m * st := b5
            subst b5
            obtain ⟨oldA, hold⟩ := loadT_total (d := d) (t := tt) (m * st) 0
            have hold' : H.loadN b 0 (m * st) = some oldA := by
              unfold Hp.loadN AO.loadN
              rw [hob, ob_mk]
              show iteB (Nat.ble (0 + m * st) (m * st)) _ none = _
              rw [Nat.zero_add, Nat.ble_eq_true_of_le (Nat.le_refl _), iteB_true]
              exact hold
            obtain ⟨hol, hog⟩ := loadT_get _ _ _ hold
            obtain ⟨ρ', w', u, q1, q2, q3, q4⟩ := opn oldA _ H1 H' ⟨_, _, _, Hp.fn_of_obj hob⟩ hold' ⟨d, t', by rw [List.length_append, hol, lenL_zero]; rfl, fun j a hj => by
              rw [storeT_get newA tt t' _ ht' j]
              by_cases hjo : j < oldA.length
              · rw [if_neg (by omega)]
                rw [List.getElem?_append_left hjo] at hj
                have := hog j a hj
                simpa using this
              · rw [List.getElem?_append_right (by omega)] at hj
                have := (List.getElem?_eq_some_iff.1 hj).1
                rw [if_pos (by omega), ← hol]; exact hj⟩ hk ha
            exact ⟨_, _, ρ', w', u, rfl, q1, q2, q3, q4⟩
          | _ => cases g11
        · obtain ⟨_, hlv, g9⟩ := ob_some (x := liveC H b off) g9
          obtain ⟨oldA, hold, g10⟩ := ob_some g9
          obtain ⟨cs, hcs, g11⟩ := ob_some g10
          obtain ⟨o, ho, g12⟩ := ob_some g11
          obtain ⟨H1, hk, g13⟩ := ob_some g12
          obtain ⟨H', ha, rfl⟩ := allocV_inv g13
          have := app_some _ _ _ hcs
          subst this
          obtain ⟨ρ', w', u, q1, q2, q3, q4⟩ := opn oldA o H1 H' (liveC_fn hlv) hold (ofList_content ho) hk ha
          exact ⟨_, _, ρ', w', u, rfl, q1, q2, q3, q4⟩
  all_goals cases g6
end Go.Vex
namespace Go.Vex
variable {P : Program} {ρ : Rho} {H : Hp} {w : World} {e : Env} {σ : Operand → Value}
/-! ### A block's mark -/
theorem Rep.reset (h : Rep ρ H w) {b r base e : Nat} (hb : Lv (H.fn b)) (hr : ρ b = some (r, base, e)) {ob : Obj} (ho : RO ρ (H.fn b) base e ob) :
    Rep ρ H (World.setObj w r ob) ∧ Ext ρ H w ρ H (World.setObj w r ob) := by
  have hlt := h.blk_lt hb hr
  have hext : Ext ρ H w ρ H (World.setObj w r ob) := by
    refine ⟨ρ.sub_refl, Nat.le_refl _, by simp [World.setObj], fun r' hr' hu => ⟨?_, hu⟩, rfl, rfl, fun _ _ _ _ h => h⟩
    have hne : r ≠ r' := hu b r _ hb hr
    simp only [World.setObj, Array.getElem?_setIfInBounds_ne hne]
  refine ⟨⟨fun c hc => ?_, h.inj, h.nxt, h.rdx hext⟩, hext⟩
  · by_cases hcb : c = b
    · subst hcb
      exact ⟨r, base, e, ob, hr, by simp [World.setObj, hlt], ho⟩
    · obtain ⟨r', base', e', ob', h1, h2, h3⟩ := h.live c hc
      have hne : r' ≠ r := h.inj c b r' _ r _ hc hb h1 hr hcb
      exact ⟨r', base', e', ob', h1, by simp only [World.setObj, Array.getElem?_setIfInBounds_ne (Ne.symm hne)]; exact h2, h3⟩
theorem freeze_eq {r : Nat} {c : Array Value} {el : TypeId} {fz : Nat × Nat} (hw : w.heap[r]? = some (.cells c el fz)) (hf : fz = (0, 0) ∨ c.size ≤ fz.1) :
    ∃ fz', (w.freeze ⟨r, c.size, none⟩ 1) = World.setObj w r (.cells c el fz') ∧ (fz' = (0, 0) ∨ c.size ≤ fz'.1) := by
  have hr : r < w.heap.size := (Array.getElem?_eq_some_iff.1 hw).1
  have hv : w.heap[r] = .cells c el fz := (Array.getElem?_eq_some_iff.1 hw).2
  obtain ⟨lo, hi⟩ := fz
  refine ⟨if lo == hi then (c.size, c.size + 1) else (min lo c.size, max hi (c.size + 1)), ?_, ?_⟩
  · unfold World.freeze World.setObj
    rw [if_neg (by omega)]
    congr 1
    apply Array.ext
    · simp
    · intro i h1 h2
      by_cases ei : r = i
      · subst ei
        simp [Array.getElem_modify, hv]
      · rw [Array.getElem_modify_of_ne ei, Array.getElem_setIfInBounds_ne (by simpa using h2) ei]
  · right
    split
    · exact Nat.le_refl _
    · rename_i hne
      rcases hf with hf | hf
      · simp only [Prod.mk.injEq] at hf
        simp [hf.1, hf.2] at hne
      · simp only at hf ⊢; omega
theorem mark_ok (h : Rep ρ H w) {b r base en : Nat} {n : Nat} {d : AV} {t : T AV} (hb : H.fn b = .cells n d t) (hr : ρ b = some (r, base, en)) (off : Nat) :
    ∃ w', (markStringish ⟨r, off, none⟩).run P w = .ok () w' ∧ Rep ρ H w' ∧ Ext ρ H w ρ H w' := by
  have hnd : Lv (H.fn b) := by rw [hb]; simp
  obtain ⟨ob, hob, hro⟩ := h.at_ hnd hr
  rw [hb] at hro
  cases hro with
  | cells h1 h2 h3 h4 =>
    rename_i c el fz
    obtain ⟨fz', e1, e2⟩ := freeze_eq hob h4
    have := h.reset hnd hr (ob := .cells c el fz') (by rw [hb]; exact .cells h1 h2 h3 e2)
    refine ⟨_, ?_, this.1, this.2⟩
    unfold markStringish
    have hsh : (shape r).run P w = .ok (some (el, c.size)) w := by
      show (Sem.shape r Sem.pure).run P w = _
      simp only [Sem.run, World.shape?, hob]
    simp only [Sem.run_bind, hsh, Result.andThen_ok]
    show Result.ok () (w.freeze ⟨r, c.size, none⟩ 1) = _
    rw [e1]
/-! ### Bytes and strings -/
theorem byteOf_inv {a : AV} {c : Nat} (h : byteOf a = some c) : a = .int .u8 (.ofNat c) ∧ c < 256 := by
  cases a with
  | int k n =>
    cases k <;> first
      | (obtain ⟨m, hm, h1⟩ := ob_some (x := intNat n) h
         obtain ⟨hb, h2⟩ := iteB_some h1
         cases n with
         | ofNat j => injection hm with hm; injection h2 with h2; subst hm; subst h2; exact ⟨rfl, blt_lt hb⟩
         | negSucc j => cases hm)
      | cases h
  | _ => cases h
theorem bytes_back : ∀ {cs : List AV} {s : List Nat} {us : List Value}, mapO byteOf cs = some s → All2 (RV ρ) cs us →
    ∃ ns : List Int, us = ns.map (Value.int .u8) ∧ natsOf (ns.map fun n => UInt8.ofNat n.toNat) = s := by
  intro cs s us hm hall
  replace hm := mapO_some _ _ hm
  revert hall
  induction hm generalizing us with
  | nil => intro hall; cases hall; exact ⟨[], rfl, rfl⟩
  | cons hab _ ih =>
    intro hall
    obtain ⟨rfl, hlt⟩ := byteOf_inv hab
    cases hall with
    | cons h1 h2 =>
      cases h1
      obtain ⟨ns, rfl, e2⟩ := ih h2
      refine ⟨Int.ofNat _ :: ns, rfl, ?_⟩
      simp only [natsOf, List.map_cons] at e2 ⊢
      rw [e2]
      congr 1
      simp [UInt8.toNat_ofNat', Nat.mod_eq_of_lt hlt]
theorem bytes_fwd : ∀ (l : List UInt8) (r : List AV), mapO byteAV (natsOf l) = some r → All2 (RV ρ) r (l.map fun c => Value.int .u8 c.toNat) := by
  intro l
  induction l with
  | nil => intro r h; have h' : some [] = some r := h; injection h' with h'; subst h'; exact .nil
  | cons x l ih =>
    intro r h
    obtain ⟨v, hv, h1⟩ := ob_some (x := byteAV x.toNat) (f := fun y => ob (mapO byteAV (natsOf l)) fun r => some (y :: r)) h
    obtain ⟨r', hr, h2⟩ := ob_some h1
    injection h2 with h2; subst h2
    injection hv with hv; subst hv
    exact .cons (.int _ _) (ih _ hr)
theorem isU8_inv {d : TypeDesc} {u : Unit} (h : isU8 d = some u) : d = .int .u8 := by
  cases d with
  | int k => cases k <;> first | rfl | cases h
  | _ => cases h
/-- A step with a value, and what it leaves. -/
def VOK (P : Program) (ρ : Rho) (H : Hp) (w : World) (s : Sem Value) (r : OR) : Prop := ∃ v H' ρ' w' u, r = .val v H' ∧ s.run P w = .ok u w' ∧ Rep ρ' H' w' ∧ Ext ρ H w ρ' H' w' ∧ RV ρ' v u
theorem VOK.op {s : Sem Value} {r : OR} (h : VOK P ρ H w s r) : OpOK P ρ H w (do pure (.value (← s))) r := by
  obtain ⟨v, H', ρ', w', u, rfl, h1, h2, h3, h4⟩ := h
  exact ⟨ρ', w', u, by rw [Sem.run_bind, h1]; rfl, h2, h3, h4⟩
theorem VOK.stay (h : Rep ρ H w) {s : Sem Value} {v : AV} {r : OR} {u : Value} (hh : valH H v = some r) (hs : s.run P w = .ok u w) (hv : RV ρ v u) : VOK P ρ H w s r :=
  ⟨v, H, ρ, w, u, valH_inv hh, hs, h, Ext.refl _ _ _, hv⟩
theorem conv_ok (h : Rep ρ H w) {src dst : TypeId} {x : AV} {ux : Value} (hx : RV ρ x ux) {r : OR} (hh : convA P src dst x H = some r) : VOK P ρ H w (convert src dst ux) r := by
  obtain ⟨ds, hds, h1⟩ := ob_some hh
  obtain ⟨d, hd, h2⟩ := ob_some h1
  clear hh h1
  cases d with
  | int k =>
    replace h2 : convInt k x H = some r := h2
    obtain ⟨q, hq, h3⟩ := ob_some h2
    obtain ⟨v, hv, h4⟩ := ob_some h3
    have hv := mkInt_eq hv
    subst hv
    obtain ⟨_, rfl⟩ := asInt_rel hq hx
    refine VOK.stay h h4 (u := .int k (k.wrap q.2)) ?_ (by rw [wrapK_eq]; exact .int _ _)
    unfold convert
    simp only [Sem.run_bind, run_underlying hds w, run_underlying hd w, Result.andThen_ok]
    rfl
  | string =>
    replace h2 : convToStr P src x H = some r := h2
    cases hx
    case str b =>
      refine VOK.stay h h2 (u := .string b) ?_ (.str b)
      unfold convert
      simp only [Sem.run_bind, run_underlying hds w, run_underlying hd w, Result.andThen_ok]
      rfl
    case nils =>
      obtain ⟨el, hel, h3⟩ := ob_some (x := elemOf P src) h2
      obtain ⟨de, hde, h4⟩ := ob_some h3
      obtain ⟨_, h8, h5⟩ := ob_some h4
      have := isU8_inv h8
      subst this
      refine VOK.stay h h5 (u := .string .empty) ?_ (.str .empty)
      rw [run_convert_bytes_string w src dst el _ _ _ (elemOf_inv hel) hde hd]
      rfl
    case sfix b off len k rr base en hr hle =>
      obtain ⟨el, hel, h3⟩ := ob_some (x := elemOf P src) h2
      obtain ⟨de, hde, h4⟩ := ob_some h3
      obtain ⟨_, h8, h5⟩ := ob_some h4
      obtain ⟨cs, hcs, h6⟩ := ob_some h5
      obtain ⟨s, hs, h7⟩ := ob_some h6
      have := isU8_inv h8
      subst this
      obtain ⟨us, hl, hall, hsc, hc⟩ := h.cellsAt hr hcs
      obtain ⟨ns, rfl, e2⟩ := bytes_back hs hall
      subst e2
      have hld : (loadCells ⟨rr, base + off, none⟩ len).run P w = .ok (ns.map (Value.int .u8)).toArray w := by
        rw [← hl]
        exact run_loadCells_us hc
      refine VOK.stay h h7 (u := .string ⟨(ns.map fun n => UInt8.ofNat n.toNat).toArray⟩) ?_ (.str ⟨(ns.map fun n => UInt8.ofNat n.toNat).toArray⟩)
      rw [run_convert_bytes_string w src dst el _ _ _ (elemOf_inv hel) hde hd, run_bytesToString w _ len k ns hld, foldl_push_bytes]
      simp
    case sopn b off len st k rr base en hr hle hend hst =>
      obtain ⟨el, hel, h3⟩ := ob_some (x := elemOf P src) h2
      obtain ⟨de, hde, h4⟩ := ob_some h3
      obtain ⟨_, h8, h5⟩ := ob_some h4
      obtain ⟨cs, hcs, h6⟩ := ob_some h5
      obtain ⟨s, hs, h7⟩ := ob_some h6
      have := isU8_inv h8
      subst this
      obtain ⟨us, hl, hall, hsc, hc⟩ := h.cellsAt hr hcs
      obtain ⟨ns, rfl, e2⟩ := bytes_back hs hall
      subst e2
      have hld : (loadCells ⟨rr, base + off, none⟩ len).run P w = .ok (ns.map (Value.int .u8)).toArray w := by
        rw [← hl]
        exact run_loadCells_us hc
      refine VOK.stay h h7 (u := .string ⟨(ns.map fun n => UInt8.ofNat n.toNat).toArray⟩) ?_ (.str ⟨(ns.map fun n => UInt8.ofNat n.toNat).toArray⟩)
      rw [run_convert_bytes_string w src dst el _ _ _ (elemOf_inv hel) hde hd, run_bytesToString w _ len k ns hld, foldl_push_bytes]
      simp
    all_goals cases h2
  | slice el =>
    replace h2 : convSl P src dst el x H = some r := h2
    cases hx
    case str b =>
      replace h2 : convToBytes P el (.str (natsOf b.data.toList)) H = some r := h2
      obtain ⟨de, hde, h3⟩ := ob_some h2
      obtain ⟨_, h8, h4⟩ := ob_some h3
      obtain ⟨s, hs, h5⟩ := ob_some h4
      obtain ⟨cs, hcs, h6⟩ := ob_some h5
      obtain ⟨o, ho, h7⟩ := ob_some h6
      obtain ⟨H', ha, rfl⟩ := allocV_inv h7
      have := isU8_inv h8
      subst this
      injection hs with hs; subst hs
      let w1 : World := { w with drawn := w.drawn + 1 }
      let c := Question.cut (.appendCap b.size 0 el) (w.tape w.drawn (.appendCap b.size 0 el))
      have hc : b.size ≤ c := by show b.size ≤ b.size + _; omega
      have hch : (choose (.appendCap b.size 0 el)).run P w = .ok c w1 := rfl
      have hall := bytes_fwd (ρ := ρ) _ _ hcs
      have hsc : ∀ u ∈ b.data.toList.map (fun c => Value.int .u8 c.toNat), Scalar u := by
        intro u hu; simp at hu; obtain ⟨_, _, rfl⟩ := hu; simp [Scalar]
      have hsame : Same w w1 := ⟨rfl, rfl, rfl⟩
      obtain ⟨ρ', w2, q1, q2, q3, q4⟩ := newRow_ok (P := P) (h.same hsame) (ofList_content ho) hall hsc ha el (List.replicate (c - b.size) (.int .u8 0))
      obtain ⟨d', t', hlen', hget'⟩ := ofList_content ho
      have hfn : H'.fn H.next = o := by rw [(Hp.alloc_fn ha).2]; simp
      obtain ⟨w3, m1, m2, m3⟩ := mark_ok (P := P) q2 (b := H.next) (by rw [hfn]; exact hlen') q4 0
      have hlenm : (b.data.toList.map (fun c => Value.int .u8 c.toNat)).length = b.size := by simp
      refine ⟨_, _, ρ', w3, .slice (some ⟨w.heap.size, 0, none⟩) b.size c, rfl, ?_, m2, ((Ext.of_same hsame).trans q3).trans m3, ?_⟩
      · unfold convert
        simp only [Sem.run_bind, run_underlying hds w, run_underlying hd w, Result.andThen_ok, run_underlying hde w]
        unfold Conv.stringToBytes
        have hrow : (b.data.map (fun b => Value.int .u8 b.toNat) ++ Array.replicate (c - b.size) (.int .u8 0)) = (b.data.toList.map (fun c : UInt8 => Value.int .u8 c.toNat) ++ List.replicate (c - b.size) (Value.int .u8 0)).toArray := by
          apply Array.ext'; simp
        simp only [Sem.run_bind, hch, Result.andThen_ok, hrow, q1]
        have m1' : (markStringish ⟨w1.heap.size, 0, none⟩).run P w2 = .ok () w3 := m1
        rw [m1']
        rfl
      · rw [lenL_zero, natsOf_size]
        have := RV.sopn (ρ := ρ') (b := H.next) (off := 0) (len := b.size) (s := 1) (k := c) q4 hc (by rw [hlenm, List.length_replicate]; omega) (by omega)
        simpa using this
    case sfix b off len k rr base en hr hle =>
      replace h2 : convSame P src dst el (.slice b off len (.fix k)) H = some r := h2
      obtain ⟨heq, h3⟩ := iteB_some h2
      obtain ⟨de, hde, h4⟩ := ob_some h3
      obtain ⟨_, h8, h5⟩ := ob_some h4
      obtain ⟨_, hlv, h6⟩ := ob_some h5
      have heq := beq_eq heq
      subst heq
      have := isU8_inv h8
      subst this
      obtain ⟨o, ho, hlv⟩ := ob_some hlv
      cases o with
      | cells n d t =>
        obtain ⟨w3, m1, m2, m3⟩ := mark_ok (P := P) h (Hp.fn_of_obj ho) hr (base + off)
        refine ⟨_, _, ρ, w3, .slice (some ⟨rr, base + off, none⟩) len k, valH_inv h6, ?_, m2, m3, .sfix hr hle⟩
        unfold convert
        simp only [Sem.run_bind, run_underlying hd w, Result.andThen_ok, run_underlying hde w, beq_self_eq_true, m1]
        rfl
      | _ => cases hlv
    case sopn b off len st k rr base en hr hle hend hst =>
      replace h2 : convSame P src dst el (.slice b off len (.opn st)) H = some r := h2
      obtain ⟨heq, h3⟩ := iteB_some h2
      obtain ⟨de, hde, h4⟩ := ob_some h3
      obtain ⟨_, h8, h5⟩ := ob_some h4
      obtain ⟨_, hlv, h6⟩ := ob_some h5
      have heq := beq_eq heq
      subst heq
      have := isU8_inv h8
      subst this
      obtain ⟨o, ho, hlv⟩ := ob_some hlv
      cases o with
      | cells n d t =>
        obtain ⟨w3, m1, m2, m3⟩ := mark_ok (P := P) h (Hp.fn_of_obj ho) hr (base + off)
        refine ⟨_, _, ρ, w3, .slice (some ⟨rr, base + off, none⟩) len k, valH_inv h6, ?_, m2, m3, .sopn hr hle hend hst⟩
        unfold convert
        simp only [Sem.run_bind, run_underlying hd w, Result.andThen_ok, run_underlying hde w, beq_self_eq_true, m1]
        rfl
      | _ => cases hlv
    all_goals (obtain ⟨_, h3⟩ := iteB_some (b := Nat.beq src dst) h2; obtain ⟨de, hde, h4⟩ := ob_some h3; obtain ⟨_, h8, h5⟩ := ob_some h4; cases h5)
  | _ => cases h2
end Go.Vex
namespace Go.Vex
variable {P : Program} {ρ : Rho} {H : Hp} {w : World} {e : Env} {σ : Operand → Value}
/-! ### Builtins -/
theorem All2.nth0 {args : List AV} {us : List Value} (h : All2 (RV ρ) args us) {n : Nat} {v : AV} (hn : nth args n = some v) : ∃ u, us[n]? = some u ∧ RV ρ v u := by
  rw [nth_eq] at hn
  obtain ⟨u, hu, hv⟩ := h.get n v hn
  exact ⟨u, hu, hv⟩
theorem len_ok (h : Rep ρ H w) {at_ : Array TypeId} {ty : TypeId} {args : List AV} {us : List Value} (ha : All2 (RV ρ) args us) {x : AV} (hx : arg1 args = some x) {r : OR} (hh : lenA P H at_.toList x = some r) :
    ∃ v u, r = .val v H ∧ (Builtin.len_ at_ ty us.toArray).run P w = .ok u w ∧ RV ρ v u := by
  obtain ⟨ux, hux, hrx⟩ := ha.nth0 hx
  obtain ⟨t, ht, h1⟩ := ob_some hh
  obtain ⟨d, hd, h2⟩ := ob_some h1
  clear hh h1
  rw [nth_eq] at ht
  have e0 : at_[0]? = some t := by simpa using ht
  have e1 : us.toArray[0]? = some ux := by simpa using hux
  cases d with
  | string =>
    replace h2 : (ob x.asStr fun s => valH H (.int .i64 (.ofNat (lenL s 0)))) = some r := h2
    obtain ⟨s, hs, h3⟩ := ob_some h2
    obtain ⟨b, rfl, rfl⟩ := asStr_rel hs hrx
    refine ⟨_, _, valH_inv h3, ?_, .int _ _⟩
    unfold Builtin.len_
    simp only [e0, e1, Sem.run_bind, run_underlying hd w, Result.andThen_ok]
    rw [lenL_zero, natsOf_size]; rfl
  | array n el =>
    replace h2 : valH H (.int .i64 (.ofNat n)) = some r := h2
    refine ⟨_, _, valH_inv h2, ?_, .int _ _⟩
    unfold Builtin.len_
    simp only [e0, e1, Sem.run_bind, run_underlying hd w, Result.andThen_ok]
    rfl
  | pointer a =>
    replace h2 : (ob (arrOf P a) fun q => valH H (.int .i64 (.ofNat q.1))) = some r := h2
    obtain ⟨q, hq, h3⟩ := ob_some h2
    refine ⟨_, _, valH_inv h3, ?_, .int _ _⟩
    unfold Builtin.len_
    simp only [e0, e1, Sem.run_bind, run_underlying hd w, run_underlying (arrOf_inv hq) w, Result.andThen_ok]
    rfl
  | slice el =>
    replace h2 : lenSl H x = some r := h2
    cases hrx
    case sfix => exact ⟨_, _, valH_inv h2, by unfold Builtin.len_; simp only [e0, e1, Sem.run_bind, run_underlying hd w, Result.andThen_ok]; rfl, .int _ _⟩
    case sopn => exact ⟨_, _, valH_inv h2, by unfold Builtin.len_; simp only [e0, e1, Sem.run_bind, run_underlying hd w, Result.andThen_ok]; rfl, .int _ _⟩
    case nils => exact ⟨_, _, valH_inv h2, by unfold Builtin.len_; simp only [e0, e1, Sem.run_bind, run_underlying hd w, Result.andThen_ok]; rfl, .int _ _⟩
    case zsl => exact ⟨_, _, valH_inv h2, by unfold Builtin.len_; simp only [e0, e1, Sem.run_bind, run_underlying hd w, Result.andThen_ok]; rfl, .int _ _⟩
    all_goals cases h2
  | map k el =>
    replace h2 : lenMp H x = some r := h2
    cases hrx
    case nilm => exact ⟨_, _, valH_inv h2, by unfold Builtin.len_; simp only [e0, e1, Sem.run_bind, run_underlying hd w, Result.andThen_ok]; rfl, .int _ _⟩
    case map b rr xx hr =>
      obtain ⟨o, ho, h3⟩ := ob_some (x := H.obj b) h2
      cases o with
      | mapo es c =>
        obtain ⟨ces, hob, hall⟩ := h.mapAt hr (Hp.fn_of_obj ho)
        have hl : lenL es 0 = ces.size := by rw [lenL_zero, hall.length]; simp
        refine ⟨_, _, valH_inv h3, ?_, .int _ _⟩
        unfold Builtin.len_
        simp only [e0, e1, Sem.run_bind, run_underlying hd w, Result.andThen_ok, run_getObj hob (by simp)]
        rw [hl]; rfl
      | _ => cases h3
    all_goals cases h2
  | _ => cases h2
theorem copy_ok (h : Rep ρ H w) {at_ : Array TypeId} {ty t el : TypeId} (h0 : at_[0]? = some t) (hel : elemOf P t = some el) {args : List AV} {us : List Value} (ha : All2 (RV ρ) args us) {d x : AV} (hd : arg1 args = some d) (hx : arg2 args = some x) {r : OR} (hh : copyA P H el d x = some r) :
    VOK P ρ H w (Builtin.copy_ at_ ty us.toArray) r := by
  obtain ⟨ud, hud, hrd⟩ := ha.nth0 hd
  obtain ⟨ux, hux, hrx⟩ := ha.nth0 hx
  obtain ⟨sz, hsz, h1⟩ := ob_some hh
  obtain ⟨nx, hnx, h2⟩ := ob_some h1
  obtain ⟨nd, hnd, h3⟩ := ob_some h2
  obtain ⟨cs, hcs, h4⟩ := ob_some h3
  clear hh h1 h2 h3
  have e1 : us.toArray[0]? = some ud := by simpa using hud
  have e2 : us.toArray[1]? = some ux := by simpa using hux
  obtain ⟨new, hnr, hnA, hnS, hnL⟩ := firstCells_ok (P := P) h hcs hrx hnx (Nat.min_le_left _ _)
  have hlx := lenOf_ok (P := P) hnx hrx w
  cases d
  case slice b off len cap =>
    obtain ⟨rr, base, en, k, hr, rfl, hle, _⟩ := slice_rel hrd
    have em : nd = len := by injection hnd with hnd; exact hnd.symm
    subst em
    obtain ⟨H', hst, h5⟩ := ob_some (x := H.storeN b off cs) h4
    obtain ⟨w', hrun, hrep, hext⟩ := h.store (P := P) hr hst hnA hnS
    refine ⟨_, _, ρ, w', _, valH_inv h5, ?_, hrep, hext, .int _ _⟩
    unfold Builtin.copy_
    simp only [h0, e1, e2, Sem.run_bind, run_underlying (elemOf_inv hel) w, Result.andThen_ok, hlx, run_sizeOf' hsz w, hnr w rfl, hrun]
    rfl
  case nils =>
    cases hrd
    have em : nd = 0 := by injection hnd with hnd; exact hnd.symm
    subst em
    refine ⟨_, _, ρ, w, _, valH_inv h4, ?_, h, Ext.refl _ _ _, .int _ _⟩
    unfold Builtin.copy_
    simp only [h0, e1, e2, Sem.run_bind, run_underlying (elemOf_inv hel) w, Result.andThen_ok, hlx, run_sizeOf' hsz w, hnr w rfl]
    rfl
  case str s =>
    cases h4
  all_goals cases hnd
theorem intLt_dec (a b : Int) : intLt a b = decide (a < b) := by
  cases a with
  | ofNat m => cases b with
    | ofNat n =>
      show Nat.blt m n = _
      rw [Bool.eq_iff_iff]
      simp only [decide_eq_true_eq]
      constructor
      · intro h; have := blt_lt h; exact Int.ofNat_lt.2 this
      · intro h; have := Int.ofNat_lt.1 h; exact Nat.ble_eq_true_of_le this
    | negSucc n =>
      show false = _
      symm
      simp only [decide_eq_false_iff_not]
      intro h; have : (0 : Int) ≤ Int.ofNat m := Int.natCast_nonneg m; have := Int.negSucc_lt_zero n; omega
  | negSucc m => cases b with
    | ofNat n =>
      show true = _
      symm
      simp only [decide_eq_true_eq]
      have : (0 : Int) ≤ Int.ofNat n := Int.natCast_nonneg n; have := Int.negSucc_lt_zero m; omega
    | negSucc n =>
      show Nat.blt n m = _
      rw [Bool.eq_iff_iff]
      simp only [decide_eq_true_eq]
      constructor
      · intro h; have := blt_lt h; omega
      · intro h; exact Nat.ble_eq_true_of_le (by omega)
theorem min_ok {at_ : Array TypeId} {ty : TypeId} {args : List AV} {us : List Value} (ha : All2 (RV ρ) args us) {r : OR} (hh : minA H args = some r) :
    ∃ v u, r = .val v H ∧ (Builtin.min_ at_ ty us.toArray).run P w = .ok u w ∧ RV ρ v u := by
  obtain ⟨x, hx, h1⟩ := ob_some hh
  obtain ⟨a, hxa, h2⟩ := ob_some h1
  obtain ⟨y, hy, h3⟩ := ob_some h2
  obtain ⟨b, hyb, h4⟩ := ob_some h3
  obtain ⟨hl, h5⟩ := iteB_some h4
  clear hh h1 h2 h3 h4
  obtain ⟨ux, hux, hrx⟩ := ha.nth0 hx
  obtain ⟨uy, huy, hry⟩ := ha.nth0 hy
  obtain ⟨_, rfl⟩ := asInt_rel hxa hrx
  obtain ⟨_, rfl⟩ := asInt_rel hyb hry
  have hl2 : us.length = 2 := by rw [← ha.length, ← lenL_zero]; exact beq_eq hl
  match us, hl2 with
  | [u0, u1], _ =>
    simp only [List.getElem?_cons_zero, Option.some.injEq] at hux
    have huy' : u1 = .int b.1 b.2 := by simpa using huy
    subst hux; subst huy'
    unfold Builtin.min_
    simp only [List.foldlM, Builtin.min2]
    rw [intLt_dec] at h5
    by_cases hlt : b.2 < a.2
    · rw [decide_eq_true hlt] at h5
      exact ⟨_, _, valH_inv h5, rfl, by rw [if_pos hlt]; exact .int _ _⟩
    · rw [decide_eq_false hlt] at h5
      exact ⟨_, _, valH_inv h5, rfl, by rw [if_neg hlt]; exact .int _ _⟩
theorem max_ok {at_ : Array TypeId} {ty : TypeId} {args : List AV} {us : List Value} (ha : All2 (RV ρ) args us) {r : OR} (hh : maxA H args = some r) :
    ∃ v u, r = .val v H ∧ (Builtin.max_ at_ ty us.toArray).run P w = .ok u w ∧ RV ρ v u := by
  obtain ⟨x, hx, h1⟩ := ob_some hh
  obtain ⟨a, hxa, h2⟩ := ob_some h1
  obtain ⟨y, hy, h3⟩ := ob_some h2
  obtain ⟨b, hyb, h4⟩ := ob_some h3
  obtain ⟨hl, h5⟩ := iteB_some h4
  clear hh h1 h2 h3 h4
  obtain ⟨ux, hux, hrx⟩ := ha.nth0 hx
  obtain ⟨uy, huy, hry⟩ := ha.nth0 hy
  obtain ⟨_, rfl⟩ := asInt_rel hxa hrx
  obtain ⟨_, rfl⟩ := asInt_rel hyb hry
  have hl2 : us.length = 2 := by rw [← ha.length, ← lenL_zero]; exact beq_eq hl
  match us, hl2 with
  | [u0, u1], _ =>
    simp only [List.getElem?_cons_zero, Option.some.injEq] at hux
    have huy' : u1 = .int b.1 b.2 := by simpa using huy
    subst hux; subst huy'
    unfold Builtin.max_
    simp only [List.foldlM, Builtin.max2]
    rw [intLt_dec] at h5
    by_cases hlt : a.2 < b.2
    · rw [decide_eq_true hlt] at h5
      exact ⟨_, _, valH_inv h5, rfl, by rw [if_pos hlt]; exact .int _ _⟩
    · rw [decide_eq_false hlt] at h5
      exact ⟨_, _, valH_inv h5, rfl, by rw [if_neg hlt]; exact .int _ _⟩
/-- A builtin that looks only. -/
def quietB (b : Builtin) : Bool := match b with | .len => true | .min => true | .max => true | _ => false
theorem builtinQ_ok (h : Rep ρ H w) {b : Builtin} (hb : quietB b = true) {at_ : Array TypeId} {ty : TypeId} {cs : Array Bool} {args : List AV} {us : List Value} (ha : All2 (RV ρ) args us) {r : OR} (hh : builtinA P b at_.toList args H = some r) :
    QOK P ρ H w (builtin b at_ ty cs us.toArray) r := by
  cases b <;> first | (cases hb; done) | skip
  case len =>
    obtain ⟨x, hx, h1⟩ := ob_some (x := arg1 args) hh
    obtain ⟨v, u, e, hrun, hv⟩ := len_ok (P := P) (ty := ty) h ha hx h1
    exact ⟨v, u, e, by unfold builtin; simp only [Sem.run_bind, hrun, Result.andThen_ok]; rfl, hv⟩
  case max =>
    obtain ⟨v, u, e, hrun, hv⟩ := max_ok (P := P) (w := w) (at_ := at_) (ty := ty) ha hh
    exact ⟨v, u, e, by unfold builtin; simp only [Sem.run_bind, hrun, Result.andThen_ok]; rfl, hv⟩
  case min =>
    obtain ⟨v, u, e, hrun, hv⟩ := min_ok (P := P) (w := w) (at_ := at_) (ty := ty) ha hh
    exact ⟨v, u, e, by unfold builtin; simp only [Sem.run_bind, hrun, Result.andThen_ok]; rfl, hv⟩
theorem builtin_ok (h : Rep ρ H w) {b : Builtin} {at_ : Array TypeId} {ty : TypeId} {cs : Array Bool} {args : List AV} {us : List Value} (ha : All2 (RV ρ) args us) {r : OR} (hh : builtinA P b at_.toList args H = some r) :
    (∃ v H', r = .val v H') ∧ OpOK P ρ H w (builtin b at_ ty cs us.toArray) r := by
  have key : ∀ s, builtin b at_ ty cs us.toArray = (do pure (.value (← s))) → VOK P ρ H w s r → (∃ v H', r = .val v H') ∧ OpOK P ρ H w (builtin b at_ ty cs us.toArray) r := by
    intro s e hv
    rw [e]
    exact ⟨let ⟨v, H', _, _, _, q, _⟩ := hv; ⟨v, H', q⟩, hv.op⟩
  cases hq : quietB b with
  | true =>
    have := builtinQ_ok (P := P) (ty := ty) (cs := cs) h hq ha hh
    exact ⟨let ⟨v, _, q, _⟩ := this; ⟨v, H, q⟩, this.op h⟩
  | false =>
    cases b <;> first | (cases hq; done) | (cases hh; done) | skip
    case append =>
      obtain ⟨t, ht, h1⟩ := ob_some (x := nth at_.toList 0) hh
      obtain ⟨el, hel, h2⟩ := ob_some h1
      obtain ⟨s, hs, h3⟩ := ob_some h2
      obtain ⟨x, hx, h4⟩ := ob_some h3
      obtain ⟨t2, ht2, h5⟩ := ob_some h4
      obtain ⟨d2, hd2, h6⟩ := ob_some h5
      clear hh h1 h2 h3 h4 h5
      cases hi : isIntD d2 with
      | true => rw [hi] at h6; cases h6
      | false =>
        rw [hi] at h6
        obtain ⟨hl, h7⟩ := iteB_some (b := Nat.beq (lenL args 0) 2) h6
        obtain ⟨u0, hu0, hr0⟩ := ha.nth0 hs
        obtain ⟨u1, hu1, hr1⟩ := ha.nth0 hx
        have hl2 : us.length = 2 := by rw [← ha.length, ← lenL_zero]; exact beq_eq hl
        have hus : us = [u0, u1] := by
          match us, hl2 with
          | [a, b], _ =>
            have e1 : a = u0 := by simpa using hu0
            have e2 : b = u1 := by simpa using hu1
            rw [e1, e2]
        subst hus
        rw [nth_eq] at ht ht2
        exact key _ rfl (appendA_ok (P := P) (ty := ty) h (elemOf_inv hel) (argTypes := at_) (by simpa using ht) (by simpa using ht2) hd2 hi hr0 hr1 h7)
    case copy =>
      obtain ⟨t, ht, h1⟩ := ob_some (x := nth at_.toList 0) hh
      obtain ⟨el, hel, h2⟩ := ob_some h1
      obtain ⟨s, hs, h3⟩ := ob_some h2
      obtain ⟨x, hx, h4⟩ := ob_some h3
      rw [nth_eq] at ht
      exact key _ rfl (copy_ok (P := P) (ty := ty) h (by simpa using ht) hel ha hs hx h4)
/-! ### Calls -/
theorem enter_run {f : FuncId} (h : enterOK P f = true) (args : Array Value) : (callFunc f args).run P w = .ok (.enter f args) w := by
  unfold enterOK at h
  cases hf : P.funcs[f]? with
  | none => rw [hf] at h; cases h
  | some fn =>
    rw [hf] at h
    simp only [Option.any_some, Bool.and_eq_true, bne_iff_ne, ne_eq] at h
    unfold callFunc
    have hp : (program).run P w = .ok P w := rfl
    simp only [Sem.run_bind, hp, Result.andThen_ok, hf]
    rw [if_neg (by simp [h.2])]
    rw [if_neg (by cases hb : fn.body <;> simp [hb] at h ⊢)]
    rfl
/-- A call: a builtin's, or a function that is entered. -/
theorem call_ok (h : Rep ρ H w) (he : EnvR ρ e σ) {c : Call} {ty : TypeId} {r : OR} (hh : callA P c e H = some r) :
    ((∃ v H', r = .val v H') ∧ OpOK P ρ H w (do let d ← resolve σ c ty; invoke d.target d.args) r) ∨
    (∃ f args d, r = .call f args ∧ enterOK P f = true ∧ (resolve σ c ty).run P w = .ok d w ∧ DRel ρ f args d) := by
  obtain ⟨args, ha, h1⟩ := ob_some hh
  have hall := envs he ha
  cases hc : c.callee with
  | builtin b =>
    rw [hc] at h1
    refine .inl ?_
    have hrun : ∀ w, (do let d ← resolve σ c ty; invoke d.target d.args : Sem Next).run P w = (builtin b c.argTypes ty (c.args.map fun | .const _ => true | _ => false) (c.args.map σ)).run P w := by
      intro w
      unfold resolve
      simp only [hc, Sem.run_bind, Sem.run_pure, Result.andThen_ok]
      rfl
    have e0 : (c.args.toList.map σ).toArray = c.args.map σ := by apply Array.ext'; simp
    have := builtin_ok (P := P) (ty := ty) (cs := c.args.map fun | .const _ => true | _ => false) h hall h1
    rw [e0] at this
    refine ⟨this.1, ?_⟩
    obtain ⟨v, H', rfl⟩ := this.1
    obtain ⟨ρ', w', u, q1, q2⟩ := this.2
    exact ⟨ρ', w', u, by rw [hrun]; exact q1, q2⟩
  | value f =>
    rw [hc] at h1
    obtain ⟨fv, hfv, h2⟩ := ob_some (x := e f) h1
    obtain ⟨q, hq, h3⟩ := ob_some h2
    obtain ⟨hen, h4⟩ := iteB_some h3
    obtain ⟨r1, hr1, h5⟩ := ob_some h4
    obtain ⟨r2, hr2, h6⟩ := ob_some h5
    injection h6 with h6; subst h6
    have := app_some _ _ _ hr1
    subst this
    have := app_some _ _ _ hr2
    subst this
    obtain ⟨va, vc, hf, hva, hvc⟩ := asFunc_rel hq (he _ _ hfv)
    refine .inr ⟨_, _, { target := .fn (.func q.1) vc.toArray, args := va.toArray ++ c.args.map σ }, rfl, hen, ?_, ⟨vc.toArray, _, rfl, ?_⟩⟩
    · unfold resolve
      simp only [hc, hf]
      rfl
    · have : (va.toArray ++ c.args.map σ).toList ++ vc.toArray.toList = va ++ (c.args.toList.map σ ++ vc) := by simp
      rw [this]
      exact hva.append (hall.append hvc)
  | invoke r n => rw [hc] at h1; cases h1
end Go.Vex
namespace Go.Vex
variable {P : Program} {ρ : Rho} {H : Hp} {w : World} {e : Env} {σ : Operand → Value}
/-! ### Each operation -/
theorem panic_ok (he : EnvR ρ e σ) {x : Operand} {r : OR} (hh : opPanic e x = some r) : OpOK P ρ H w (do pure (.value (← Instr.panic (σ x)))) r := by
  obtain ⟨v, hv, h1⟩ := ob_some hh
  obtain ⟨q, hq, h2⟩ := ob_some h1
  injection h2 with h2; subst h2
  obtain ⟨y, hu, hy⟩ := asIface_rel hq (he _ _ hv)
  refine ⟨σ x, ?_, he _ _ hv⟩
  rw [hu]; rfl
/-- An operation that neither writes nor makes memory. -/
def quiet (o : Op) : Bool :=
  match kindOf o with | .pure => true | .quiet => true | _ => false
theorem quiet_ok (h : Rep ρ H w) (he : EnvR ρ e σ) {o : Oper} (hq : quiet o.op = true) {r : OR} (hh : opA P o.op e H = some r) : QOK P ρ H w (execOp σ o) r := by
  cases ho : o.op with
  | move x => rw [ho] at hh; unfold execOp; rw [ho]; exact move_ok he hh
  | assign x => rw [ho] at hh; unfold execOp; rw [ho]; exact move_ok he hh
  | pick c a b => rw [ho] at hh; unfold execOp; rw [ho]; exact pick_ok he hh
  | load t a => rw [ho] at hh; unfold execOp; rw [ho]; exact load_ok h he hh
  | nilCheck x => rw [ho] at hh; exact nil_ok he ho hh
  | binOp op t x y f => rw [ho] at hh; unfold execOp; rw [ho]; exact bin_ok he hh
  | unOp op t x => rw [ho] at hh; unfold execOp; rw [ho]; exact un_ok he hh
  | makeInterface t x => rw [ho] at hh; unfold execOp; rw [ho]; exact iface_ok he hh
  | makeFunc f a b => rw [ho] at hh; unfold execOp; rw [ho]; exact func_ok he hh
  | slice t x lo hi mx => rw [ho] at hh; unfold execOp; rw [ho]; exact slice_ok he hh
  | fieldAddr s x f => rw [ho] at hh; unfold execOp; rw [ho]; exact fieldAddr_ok he hh
  | field s x f => rw [ho] at hh; unfold execOp; rw [ho]; exact field_ok he hh
  | indexAddr t x i => rw [ho] at hh; unfold execOp; rw [ho]; exact indexAddr_ok he hh
  | index t x i => rw [ho] at hh; unfold execOp; rw [ho]; exact index_ok he hh
  | lookup t x i ok => rw [ho] at hh; unfold execOp; rw [ho]; exact lookup_ok h he hh
  | extract x i => rw [ho] at hh; unfold execOp; rw [ho]; exact extract_ok he hh
  | build t ps => rw [ho] at hh; unfold execOp; rw [ho]; exact build_ok he hh
  | typeAssert x t a ok => rw [ho] at hh; unfold execOp; rw [ho]; exact assert_ok he hh
  | call c =>
    rw [ho] at hh hq
    obtain ⟨cal, cargs, ats⟩ := c
    cases cal with
    | builtin b =>
      have hb : quietB b = true := by cases b <;> first | rfl | cases hq
      obtain ⟨args, ha, h1⟩ := ob_some (x := opds e cargs.toList) hh
      have hall := envs he ha
      have e0 : (cargs.toList.map σ).toArray = cargs.map σ := by apply Array.ext'; simp
      obtain ⟨v, u, q1, q2, q3⟩ := builtinQ_ok (P := P) (ty := o.type) (cs := cargs.map fun | .const _ => true | _ => false) h hb hall h1
      rw [e0] at q2
      refine ⟨v, u, q1, ?_, q3⟩
      unfold execOp
      rw [ho]
      unfold resolve
      simp only [Sem.run_bind, Sem.run_pure, Result.andThen_ok]
      exact q2
    | value f => cases hq
    | invoke r n => cases hq
  | _ => rw [ho] at hq; cases hq
theorem opA_ok (h : Rep ρ H w) (he : EnvR ρ e σ) {o : Oper} {r : OR} (hh : opA P o.op e H = some r) : OpOK P ρ H w (execOp σ o) r := by
  cases hq : quiet o.op with
  | true => exact (quiet_ok h he hq hh).op h
  | false =>
    cases ho : o.op with
    | alloc t => rw [ho] at hh; unfold execOp; rw [ho]; exact alloc_ok h hh
    | box t x => rw [ho] at hh; unfold execOp; rw [ho]; exact box_ok h he hh
    | buildSlice t len ps => rw [ho] at hh; unfold execOp; rw [ho]; exact buildSlice_ok h he hh
    | store t a x => rw [ho] at hh; unfold execOp; rw [ho]; exact store_ok h he hh
    | convert s d x =>
      rw [ho] at hh; unfold execOp; rw [ho]
      obtain ⟨v, hv, h1⟩ := ob_some (x := e x) hh
      exact (conv_ok h (he _ _ hv) h1).op
    | makeMap t x => rw [ho] at hh; unfold execOp; rw [ho]; exact makeMap_ok h hh
    | makeSlice t l c => rw [ho] at hh; unfold execOp; rw [ho]; exact makeSlice_ok h he hh
    | mapUpdate t m k x => rw [ho] at hh; unfold execOp; rw [ho]; exact mapUpd_ok h he hh
    | range t x => rw [ho] at hh; unfold execOp; rw [ho]; exact range_ok h he hh
    | next x str => rw [ho] at hh; unfold execOp; rw [ho]; exact next_ok h he hh
    | panic x => rw [ho] at hh; unfold execOp; rw [ho]; exact panic_ok he hh
    | call c =>
      rw [ho] at hh; unfold execOp; rw [ho]
      rcases call_ok (ty := o.type) h he hh with ⟨_, h1⟩ | ⟨f, args, d, rfl, hen, hrun, cap, vs, rfl, hall⟩
      · exact h1
      · refine ⟨hen, vs.toList ++ cap.toList, ?_, hall⟩
        simp only [Sem.run_bind, hrun, Result.andThen_ok]
        unfold invoke
        have : vs ++ cap = (vs.toList ++ cap.toList).toArray := by apply Array.ext'; simp
        simp only [this]
        exact enter_run hen _
    | defer c =>
      rw [ho] at hh; unfold execOp; rw [ho]
      obtain ⟨x, hx, h1⟩ := ob_some (x := callA P c e H) hh
      rcases call_ok (ty := o.type) h he hx with ⟨⟨v, H', rfl⟩, _⟩ | ⟨f, args, d, rfl, hen, hrun, hd⟩
      · cases h1
      · injection h1 with h1; subst h1
        exact ⟨hen, d, by simp only [Sem.run_bind, hrun, Result.andThen_ok]; rfl, hd⟩
    | _ => first | (rw [ho] at hh; cases hh; done) | (rw [ho] at hq; cases hq; done)
end Go.Vex
