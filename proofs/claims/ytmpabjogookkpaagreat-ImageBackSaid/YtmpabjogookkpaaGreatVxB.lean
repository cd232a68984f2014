/-
  The evaluator's tries, its values and its memory, and what they stand for.
  No condition.
-/
import Derived.Test.YtmpabjogookkpaaGreatVxA
import Derived.Calls
set_option linter.unusedVariables false
namespace Go.Vex
/-! ### Words of the evaluator -/
theorem ob_some {α β : Type} {x : Option α} {f : α → Option β} {b : β} (h : ob x f = some b) : ∃ a, x = some a ∧ f a = some b := by
  cases x with
  | none => simp [ob] at h
  | some a => exact ⟨a, rfl, h⟩
@[simp] theorem ob_none {α β : Type} (f : α → Option β) : ob none f = none := rfl
@[simp] theorem ob_mk {α β : Type} (a : α) (f : α → Option β) : ob (some a) f = f a := rfl
@[simp] theorem iteB_true {α : Type} (x y : α) : iteB true x y = x := rfl
@[simp] theorem iteB_false {α : Type} (x y : α) : iteB false x y = y := rfl
theorem iteB_some {α : Type} {b : Bool} {x : Option α} {a : α} (h : iteB b x none = some a) : b = true ∧ x = some a := by
  cases b with
  | true => exact ⟨rfl, h⟩
  | false => simp at h
theorem iteB_none {α : Type} {b : Bool} {x : Option α} {a : α} (h : iteB b none x = some a) : b = false ∧ x = some a := by
  cases b with
  | false => exact ⟨rfl, h⟩
  | true => simp at h
@[simp] theorem optRec_none {α β : Type} (z : β) (s : α → β) : optRec z s none = z := rfl
@[simp] theorem optRec_some {α β : Type} (z : β) (s : α → β) (a : α) : optRec z s (some a) = s a := rfl
@[simp] theorem listRec_nil {α β : Type} (z : β) (s : α → List α → β → β) : listRec z s [] = z := rfl
@[simp] theorem listRec_cons {α β : Type} (z : β) (s : α → List α → β → β) (x : α) (l : List α) : listRec z s (x :: l) = s x l (listRec z s l) := rfl
@[simp] theorem natRec_zero {β : Type} (z : β) (s : Nat → β → β) : natRec z s 0 = z := rfl
@[simp] theorem natRec_succ {β : Type} (z : β) (s : Nat → β → β) (n : Nat) : natRec z s (n + 1) = s n (natRec z s n) := rfl
theorem orElseO_some {α : Type} {x y : Option α} {a : α} (h : orElseO x y = some a) : x = some a ∨ (x = none ∧ y = some a) := by
  cases x with
  | none => exact .inr ⟨rfl, h⟩
  | some b => exact .inl h

/-! ### Tries -/
section trie
variable {α : Type} (d : α)
@[simp] theorem T.get_leaf (n : Nat) : (T.leaf : T α).get d n = some d := rfl
@[simp] theorem T.get_node_zero (v : α) (l r : T α) : (T.node v l r).get d 0 = some v := rfl
theorem T.get_node_succ (v : α) (l r : T α) (m : Nat) : (T.node v l r).get d (m + 1) = if m % 2 = 0 then l.get d (m / 2) else r.get d (m / 2) := by
  have h : (T.node v l r).get d (m + 1) = Nat.rec (motive := fun _ => Option α) (l.get d (Nat.div m 2)) (fun _ _ => r.get d (Nat.div m 2)) (Nat.mod m 2) := rfl
  rw [h]
  rcases Nat.mod_two_eq_zero_or_one m with h0 | h0
  · have : Nat.mod m 2 = 0 := h0
    rw [this, if_pos h0]; rfl
  · have : Nat.mod m 2 = 1 := h0
    rw [this, if_neg (by omega)]; rfl
theorem T.get_some (t : T α) : ∀ n, ∃ v, t.get d n = some v := by
  induction t with
  | leaf => exact fun n => ⟨d, rfl⟩
  | node v l r hl hr =>
    intro n
    cases n with
    | zero => exact ⟨v, rfl⟩
    | succ m =>
      rw [T.get_node_succ]
      split
      · exact hl _
      · exact hr _
theorem mkPath_get (x : α) : ∀ (f n : Nat) (t : T α), mkPath d x f n = some t → ∀ m, t.get d m = if m = n then some x else some d := by
  intro f
  induction f with
  | zero => intro n t h; simp [mkPath] at h
  | succ f ih =>
    intro n t h m
    cases n with
    | zero =>
      have h' : some (T.node x .leaf .leaf) = some t := h
      injection h' with h'; subst h'
      cases m with
      | zero => simp
      | succ m => rw [T.get_node_succ]; simp
    | succ n =>
      have h' : Nat.rec (motive := fun _ => Option (T α)) (ob (mkPath d x f (Nat.div n 2)) fun t => some (.node d t .leaf))
          (fun _ _ => ob (mkPath d x f (Nat.div n 2)) fun t => some (.node d .leaf t)) (Nat.mod n 2) = some t := h
      rcases Nat.mod_two_eq_zero_or_one n with h0 | h0
      · have e : Nat.mod n 2 = 0 := h0
        rw [e] at h'
        obtain ⟨t', ht', h'⟩ := ob_some h'
        injection h' with h'; subst h'
        have ih' := ih _ _ ht'
        cases m with
        | zero => simp
        | succ m =>
          rw [T.get_node_succ]
          by_cases hm : m % 2 = 0
          · rw [if_pos hm, ih']
            have : (m / 2 = Nat.div n 2) ↔ (m + 1 = n + 1) := by show (m / 2 = n / 2) ↔ _; omega
            simp only [this]
          · rw [if_neg hm, if_neg (by omega)]; simp
      · have e : Nat.mod n 2 = 1 := h0
        rw [e] at h'
        obtain ⟨t', ht', h'⟩ := ob_some (f := fun t => some (T.node d .leaf t)) h'
        injection h' with h'; subst h'
        have ih' := ih _ _ ht'
        cases m with
        | zero => simp
        | succ m =>
          rw [T.get_node_succ]
          by_cases hm : m % 2 = 0
          · rw [if_pos hm, if_neg (by omega)]; simp
          · rw [if_neg hm, ih']
            have : (m / 2 = Nat.div n 2) ↔ (m + 1 = n + 1) := by show (m / 2 = n / 2) ↔ _; omega
            simp only [this]
theorem T.set_get (x : α) : ∀ (t : T α) (n : Nat) (t' : T α), t.set d x n = some t' → ∀ m, t'.get d m = if m = n then some x else t.get d m := by
  intro t
  induction t with
  | leaf => intro n t' h m; rw [mkPath_get d x (Nat.succ n) n t' h]; rfl
  | node v l r hl hr =>
    intro n t' h m
    cases n with
    | zero =>
      have h' : some (T.node x l r) = some t' := h
      injection h' with h'; subst h'
      cases m with
      | zero => simp
      | succ m => rw [T.get_node_succ, T.get_node_succ]; simp
    | succ n =>
      have h' : Nat.rec (motive := fun _ => Option (T α)) (ob (l.set d x (Nat.div n 2)) fun l' => some (.node v l' r))
          (fun _ _ => ob (r.set d x (Nat.div n 2)) fun r' => some (.node v l r')) (Nat.mod n 2) = some t' := h
      rcases Nat.mod_two_eq_zero_or_one n with h0 | h0
      · have e : Nat.mod n 2 = 0 := h0
        rw [e] at h'
        obtain ⟨l', hl', h'⟩ := ob_some h'
        injection h' with h'; subst h'
        cases m with
        | zero => simp
        | succ m =>
          rw [T.get_node_succ, T.get_node_succ]
          by_cases hm : m % 2 = 0
          · rw [if_pos hm, if_pos hm, hl _ _ hl']
            have : (m / 2 = Nat.div n 2) ↔ (m + 1 = n + 1) := by show (m / 2 = n / 2) ↔ _; omega
            simp only [this]
          · rw [if_neg hm, if_neg hm, if_neg (by omega)]
      · have e : Nat.mod n 2 = 1 := h0
        rw [e] at h'
        obtain ⟨r', hr', h'⟩ := ob_some (f := fun r' => some (T.node v l r')) h'
        injection h' with h'; subst h'
        cases m with
        | zero => simp
        | succ m =>
          rw [T.get_node_succ, T.get_node_succ]
          by_cases hm : m % 2 = 0
          · rw [if_pos hm, if_pos hm, if_neg (by omega)]
          · rw [if_neg hm, if_neg hm, hr _ _ hr']
            have : (m / 2 = Nat.div n 2) ↔ (m + 1 = n + 1) := by show (m / 2 = n / 2) ↔ _; omega
            simp only [this]
end trie

/-! ### Lists -/
theorem nth_eq {α : Type} : ∀ (l : List α) (n : Nat), nth l n = l[n]? := by
  intro l
  induction l with
  | nil => intro n; cases n <;> rfl
  | cons x l ih =>
    intro n
    cases n with
    | zero => rfl
    | succ n => exact ih n
theorem lenL_eq {α : Type} : ∀ (l : List α) (n : Nat), lenL l n = l.length + n := by
  intro l
  induction l with
  | nil => intro n; show n = _; simp
  | cons x l ih => intro n; show lenL l (Nat.succ n) = _; rw [ih]; simp; omega
@[simp] theorem lenL_zero {α : Type} (l : List α) : lenL l 0 = l.length := by rw [lenL_eq]; rfl
theorem takeL_some {α : Type} : ∀ (n : Nat) (l r : List α), takeL n l = some r → r = l.take n ∧ n ≤ l.length := by
  intro n
  induction n with
  | zero => intro l r h; have h' : some [] = some r := h; injection h' with h'; subst h'; simp
  | succ n ih =>
    intro l r h
    cases l with
    | nil => cases h
    | cons x l =>
      obtain ⟨r', hr', h'⟩ := ob_some (f := fun r => some (x :: r)) h
      injection h' with h'; subst h'
      obtain ⟨e, hl⟩ := ih _ _ hr'
      subst e
      exact ⟨rfl, by simp; omega⟩
theorem dropL_eq {α : Type} : ∀ (n : Nat) (l : List α), dropL n l = l.drop n := by
  intro n
  induction n with
  | zero => intro l; rfl
  | succ n ih =>
    intro l
    cases l with
    | nil => rfl
    | cons x l => exact ih l
theorem app_some {α : Type} : ∀ (l k r : List α), app l k = some r → r = l ++ k := by
  intro l
  induction l with
  | nil => intro k r h; have h' : some k = some r := h; injection h' with h'; exact h'.symm
  | cons x l ih =>
    intro k r h
    obtain ⟨r', hr', h'⟩ := ob_some (f := fun r => some (x :: r)) h
    injection h' with h'; subst h'
    rw [ih k r' hr']; rfl
theorem over0_some {α : Type} : ∀ (ys l r : List α), over0 ys l = some r → r = ys ++ l.drop ys.length ∧ ys.length ≤ l.length := by
  intro ys
  induction ys with
  | nil => intro l r h; have h' : some l = some r := h; injection h' with h'; subst h'; simp
  | cons y ys ih =>
    intro l r h
    cases l with
    | nil => cases h
    | cons x l =>
      obtain ⟨r', hr', h'⟩ := ob_some (f := fun r => some (y :: r)) h
      injection h' with h'; subst h'
      obtain ⟨e, hl⟩ := ih _ _ hr'
      subst e
      exact ⟨rfl, by simp; omega⟩
theorem over_some {α : Type} (ys : List α) : ∀ (n : Nat) (l r : List α), over ys n l = some r → r = l.take n ++ ys ++ l.drop (n + ys.length) ∧ n + ys.length ≤ l.length := by
  intro n
  induction n with
  | zero => intro l r h; obtain ⟨e, hl⟩ := over0_some ys l r h; subst e; simp; exact hl
  | succ n ih =>
    intro l r h
    cases l with
    | nil => cases h
    | cons x l =>
      obtain ⟨r', hr', h'⟩ := ob_some (f := fun r => some (x :: r)) h
      injection h' with h'; subst h'
      obtain ⟨e, hl⟩ := ih _ _ hr'
      subst e
      refine ⟨?_, by simp; omega⟩
      have : n + 1 + ys.length = (n + ys.length) + 1 := by omega
      rw [this]; simp
/-- Elements alike. -/
inductive All2 {α β : Type} (R : α → β → Prop) : List α → List β → Prop
  | nil : All2 R [] []
  | cons {a : α} {b : β} {l : List α} {k : List β} : R a b → All2 R l k → All2 R (a :: l) (b :: k)
theorem mapO_some {α β : Type} {f : α → Option β} : ∀ (l : List α) (r : List β), mapO f l = some r → All2 (fun a b => f a = some b) l r := by
  intro l
  induction l with
  | nil => intro r h; have h' : some [] = some r := h; injection h' with h'; subst h'; exact .nil
  | cons x l ih =>
    intro r h
    obtain ⟨y, hy, h'⟩ := ob_some (f := fun y => ob (mapO f l) fun r => some (y :: r)) h
    obtain ⟨r', hr', h'⟩ := ob_some h'
    injection h' with h'; subst h'
    exact .cons hy (ih _ hr')
section all2
variable {α β : Type} {R : α → β → Prop}
theorem All2.length {l : List α} {k : List β} (h : All2 R l k) : l.length = k.length := by induction h <;> simp_all
theorem All2.imp {R' : α → β → Prop} (h : ∀ a b, R a b → R' a b) {l : List α} {k : List β} (hl : All2 R l k) : All2 R' l k := by
  induction hl with
  | nil => exact .nil
  | cons hab _ ih => exact .cons (h _ _ hab) ih
theorem All2.get {l : List α} {k : List β} (h : All2 R l k) : ∀ (i : Nat) (a : α), l[i]? = some a → ∃ b, k[i]? = some b ∧ R a b := by
  induction h with
  | nil => intro i a h; simp at h
  | cons hab _ ih =>
    intro i a h
    cases i with
    | zero => simp at h; subst h; exact ⟨_, rfl, hab⟩
    | succ i => exact ih i a (by simpa using h)
theorem All2.append {l l' : List α} {k k' : List β} (h : All2 R l k) (h' : All2 R l' k') : All2 R (l ++ l') (k ++ k') := by
  induction h with
  | nil => exact h'
  | cons hab _ ih => exact .cons hab ih
theorem All2.take {l : List α} {k : List β} (h : All2 R l k) : ∀ n, All2 R (l.take n) (k.take n) := by
  induction h with
  | nil => intro n; simp; exact .nil
  | cons hab _ ih => intro n; cases n with
    | zero => exact .nil
    | succ n => exact .cons hab (ih n)
theorem All2.drop {l : List α} {k : List β} (h : All2 R l k) : ∀ n, All2 R (l.drop n) (k.drop n) := by
  induction h with
  | nil => intro n; simp; exact .nil
  | cons hab hlk ih => intro n; cases n with
    | zero => exact .cons hab hlk
    | succ n => exact ih n
theorem All2.of_get {l : List α} {k : List β} (hl : l.length = k.length) (h : ∀ (i : Nat) (a : α) (b : β), l[i]? = some a → k[i]? = some b → R a b) : All2 R l k := by
  induction l generalizing k with
  | nil => cases k with
    | nil => exact .nil
    | cons b k => simp at hl
  | cons a l ih => cases k with
    | nil => simp at hl
    | cons b k => exact .cons (h 0 a b rfl rfl) (ih (by simpa using hl) fun i a b ha hb => h (i + 1) a b (by simpa using ha) (by simpa using hb))
end all2
end Go.Vex
namespace Go.Vex
/-! ### What an abstract value stands for -/
/-- A block's real block, where it begins there, how many cells that has. -/
abbrev Rho := Nat → Option (Nat × Nat × Nat)
def Rho.sub (ρ ρ' : Rho) : Prop := ∀ b x, ρ b = some x → ρ' b = some x
theorem Rho.sub_refl (ρ : Rho) : ρ.sub ρ := fun _ _ h => h
theorem Rho.sub_trans {ρ ρ' ρ'' : Rho} (h : ρ.sub ρ') (h' : ρ'.sub ρ'') : ρ.sub ρ'' := fun b x e => h' b x (h b x e)
def Scalar (v : Value) : Prop := (∀ cs, v ≠ .agg cs) ∧ (∀ vs, v ≠ .tuple vs)
inductive RV (ρ : Rho) : AV → Value → Prop
  | any (v : Value) : RV ρ .any v
  | undef : RV ρ .undef (.tuple #[])
  | bool (b : Bool) : RV ρ (.bool b) (.bool b)
  | int (k : IntKind) (n : Int) : RV ρ (.int k n) (.int k n)
  | str (b : ByteArray) : RV ρ (.str (natsOf b.data.toList)) (.string b)
  | ptr {b off r base e : Nat} : ρ b = some (r, base, e) → RV ρ (.ptr b off) (.pointer (some ⟨r, base + off, none⟩))
  | nilp : RV ρ .nilp (.pointer none)
  | sfix {b off len k r base e : Nat} : ρ b = some (r, base, e) → len ≤ k → RV ρ (.slice b off len (.fix k)) (.slice (some ⟨r, base + off, none⟩) len k)
  | sopn {b off len s k r base e : Nat} : ρ b = some (r, base, e) → len ≤ k → base + off + k * s = e → 0 < s → RV ρ (.slice b off len (.opn s)) (.slice (some ⟨r, base + off, none⟩) len k)
  | nils : RV ρ .nils (.slice none 0 0)
  | zsl {a : Addr} : RV ρ .zsl (.slice (some a) 0 0)
  | map {b r : Nat} {x : Nat × Nat} : ρ b = some (r, x) → RV ρ (.map b) (.map (some r))
  | nilm : RV ρ .nilm (.map none)
  | func {f : FuncId} {a c : List AV} {va vc : List Value} : All2 (RV ρ) a va → All2 (RV ρ) c vc → RV ρ (.func f a c) (.func (.func f) va.toArray vc.toArray)
  | nilf : RV ρ .nilf .nilFunc
  | iface {t : TypeId} {a : AV} {v : Value} : RV ρ a v → RV ρ (.iface t a) (.iface t v)
  | nili : RV ρ .nili .nilIface
  | agg {l : List AV} {vs : List Value} : All2 (RV ρ) l vs → (∀ v ∈ vs, Scalar v) → RV ρ (.agg l) (.agg vs.toArray)
  | tup {l : List AV} {vs : List Value} : All2 (RV ρ) l vs → RV ρ (.tup l) (.tuple vs.toArray)

theorem All2.mono_of {ρ ρ' : Rho} {l : List AV} (ih : ∀ a ∈ l, ∀ v, RV ρ a v → RV ρ' a v) {vs : List Value} (h : All2 (RV ρ) l vs) : All2 (RV ρ') l vs := by
  induction h with
  | nil => exact .nil
  | cons hab _ ih' => exact .cons (ih _ (by simp) _ hab) (ih' fun a ha => ih a (by simp [ha]))

theorem RV.mono_size {ρ ρ' : Rho} (h : ρ.sub ρ') : ∀ (n : Nat) (a : AV), SizeOf.sizeOf a ≤ n → ∀ v, RV ρ a v → RV ρ' a v := by
  intro n
  induction n with
  | zero => intro a ha; cases a <;> simp at ha
  | succ n ih =>
    intro a ha v hv
    have mem : ∀ (l : List AV), SizeOf.sizeOf l ≤ n → ∀ a ∈ l, ∀ v, RV ρ a v → RV ρ' a v := fun l hl a hal => ih a (by have := List.sizeOf_lt_of_mem hal; omega)
    cases hv with
    | any => exact .any _
    | undef => exact .undef
    | bool => exact .bool _
    | int => exact .int _ _
    | str => exact .str _
    | ptr e => exact .ptr (h _ _ e)
    | nilp => exact .nilp
    | sfix e hl => exact .sfix (h _ _ e) hl
    | sopn e hl hk hs => exact .sopn (h _ _ e) hl hk hs
    | nils => exact .nils
    | zsl => exact .zsl
    | map e => exact .map (h _ _ e)
    | nilm => exact .nilm
    | func ha' hc =>
      simp at ha
      exact .func (ha'.mono_of (mem _ (by omega))) (hc.mono_of (mem _ (by omega)))
    | nilf => exact .nilf
    | iface hv => simp at ha; exact .iface (ih _ (by omega) _ hv)
    | nili => exact .nili
    | agg hl hs => simp at ha; exact .agg (hl.mono_of (mem _ (by omega))) hs
    | tup hl => simp at ha; exact .tup (hl.mono_of (mem _ (by omega)))
theorem RV.mono {ρ ρ' : Rho} (h : ρ.sub ρ') {a : AV} {v : Value} (hv : RV ρ a v) : RV ρ' a v := RV.mono_size h _ a (Nat.le_refl _) v hv
theorem RVs.mono {ρ ρ' : Rho} (h : ρ.sub ρ') {a : List AV} {v : List Value} (hv : All2 (RV ρ) a v) : All2 (RV ρ') a v := hv.imp fun _ _ => RV.mono h

/-! ### Memory -/
def REnt (ρ : Rho) (e : Ent) (m : MapEntry) : Prop := RV ρ e.1 m.key ∧ RV ρ e.2.1 m.val ∧ m.born = e.2.2
inductive RO (ρ : Rho) : AO → Nat → Nat → Obj → Prop
  | cells {n : Nat} {d : AV} {t : T AV} {base e : Nat} {c : Array Value} {el : TypeId} {fz : Nat × Nat} : c.size = e → base + n ≤ e →
      (∀ i, i < n → ∃ a v, t.get d i = some a ∧ c[base + i]? = some v ∧ RV ρ a v ∧ Scalar v) → (fz = (0, 0) ∨ c.size ≤ fz.1) → RO ρ (.cells n d t) base e (.cells c el fz)
  | mapo {es : List Ent} {ces : Array MapEntry} {cl base e : Nat} : All2 (REnt ρ) es ces.toList → RO ρ (.mapo es cl) base e (.map ces cl)
  | siter {b : ByteArray} {p e : Nat} : RO ρ (.siter (natsOf b.data.toList) p) 0 e (.stringIter b p)
theorem REnt.mono {ρ ρ' : Rho} (h : ρ.sub ρ') {e : Ent} {m : MapEntry} (hm : REnt ρ e m) : REnt ρ' e m := ⟨hm.1.mono h, hm.2.1.mono h, hm.2.2⟩
theorem RO.mono {ρ ρ' : Rho} (h : ρ.sub ρ') {o : AO} {base e : Nat} {ob : Obj} (ho : RO ρ o base e ob) : RO ρ' o base e ob := by
  cases ho with
  | cells h1 h2 h3 h4 => exact .cells h1 h2 (fun i hi => let ⟨a, v, q1, q2, q3, q4⟩ := h3 i hi; ⟨a, v, q1, q2, q3.mono h, q4⟩) h4
  | mapo he => exact .mapo (he.imp fun _ _ => REnt.mono h)
  | siter => exact .siter

/-- The blocks as a function. -/
noncomputable def Hp.fn (H : Hp) (b : Nat) : AO := (H.obj b).getD .dead
theorem Hp.obj_fn (H : Hp) (b : Nat) : H.obj b = some (H.fn b) := by
  obtain ⟨v, hv⟩ := T.get_some AO.dead H.t b
  unfold Hp.fn Hp.obj
  rw [hv]; rfl
theorem Hp.fn_of_obj {H : Hp} {b : Nat} {o : AO} (h : H.obj b = some o) : H.fn b = o := by unfold Hp.fn; rw [h]; rfl
theorem Hp.put_fn {H H' : Hp} {b : Nat} {o : AO} (h : H.put b o = some H') : H'.next = H.next ∧ ∀ c, H'.fn c = if c = b then o else H.fn c := by
  obtain ⟨t, ht, h'⟩ := ob_some h
  injection h' with h'; subst h'
  refine ⟨rfl, fun c => ?_⟩
  have := T.set_get AO.dead o H.t b t ht c
  unfold Hp.fn Hp.obj
  simp only [this]
  split <;> rfl
theorem Hp.alloc_fn {H H' : Hp} {o : AO} (h : H.alloc o = some H') : H'.next = H.next + 1 ∧ ∀ c, H'.fn c = if c = H.next then o else H.fn c := by
  obtain ⟨t, ht, h'⟩ := ob_some h
  injection h' with h'; subst h'
  refine ⟨rfl, fun c => ?_⟩
  have := T.set_get AO.dead o H.t H.next t ht c
  unfold Hp.fn Hp.obj
  simp only [this]
  split <;> rfl

/-- Live, and may be written. -/
def Lv (o : AO) : Prop := match o with | .dead => False | .ro .. => False | _ => True
@[simp] theorem Lv_dead : Lv .dead ↔ False := Iff.rfl
@[simp] theorem Lv_ro (n : Nat) (d : AV) (t : T AV) : Lv (.ro n d t) ↔ False := Iff.rfl
@[simp] theorem Lv_cells (n : Nat) (d : AV) (t : T AV) : Lv (.cells n d t) ↔ True := Iff.rfl
@[simp] theorem Lv_mapo (es : List Ent) (c : Nat) : Lv (.mapo es c) ↔ True := Iff.rfl
@[simp] theorem Lv_siter (s : List Nat) (p : Nat) : Lv (.siter s p) ↔ True := Iff.rfl
theorem Lv.nd {o : AO} (h : Lv o) : o ≠ .dead := by intro e; subst e; exact h
/-- A real block that is none of the live ones. -/
def Un (ρ : Rho) (H : Hp) (r : Nat) : Prop := ∀ b r' x, Lv (H.fn b) → ρ b = some (r', x) → r' ≠ r
/-- A block that is only read: a window of a real one that nobody writes. (An empty one may stand for nothing.) -/
def RdAt (ρ : Rho) (H : Hp) (w : World) (b n : Nat) (d : AV) (t : T AV) : Prop :=
  ∃ r base e, ρ b = some (r, base, e) ∧ (0 < n → ∃ c el fz, w.heap[r]? = some (.cells c el fz) ∧ c.size = e ∧ base + n ≤ e ∧ (∀ i, i < n → ∃ a v, t.get d i = some a ∧ c[base + i]? = some v ∧ RV ρ a v ∧ Scalar v) ∧ Un ρ H r)
structure Rep (ρ : Rho) (H : Hp) (w : World) : Prop where
  live : ∀ b, Lv (H.fn b) → ∃ r base e ob, ρ b = some (r, base, e) ∧ w.heap[r]? = some ob ∧ RO ρ (H.fn b) base e ob
  inj : ∀ b b' r x r' x', Lv (H.fn b) → Lv (H.fn b') → ρ b = some (r, x) → ρ b' = some (r', x') → b ≠ b' → r ≠ r'
  nxt : ∀ b, H.next ≤ b → ρ b = none
  rd : ∀ b n d t, H.fn b = .ro n d t → RdAt ρ H w b n d t
structure Ext (ρ : Rho) (H : Hp) (w : World) (ρ' : Rho) (H' : Hp) (w' : World) : Prop where
  sub : ρ.sub ρ'
  next : H.next ≤ H'.next
  size : w.heap.size ≤ w'.heap.size
  frame : ∀ r, r < w.heap.size → Un ρ H r → w'.heap[r]? = w.heap[r]? ∧ Un ρ' H' r
  os : w'.os = w.os
  out : w'.output = w.output
  ros : ∀ b n d t, H'.fn b = .ro n d t → H.fn b = .ro n d t
theorem Ext.refl (ρ : Rho) (H : Hp) (w : World) : Ext ρ H w ρ H w := ⟨ρ.sub_refl, Nat.le_refl _, Nat.le_refl _, fun _ _ h => ⟨rfl, h⟩, rfl, rfl, fun _ _ _ _ h => h⟩
theorem Ext.trans {ρ ρ' ρ'' : Rho} {H H' H'' : Hp} {w w' w'' : World} (h : Ext ρ H w ρ' H' w') (h' : Ext ρ' H' w' ρ'' H'' w'') : Ext ρ H w ρ'' H'' w'' where
  sub := Rho.sub_trans h.sub h'.sub
  next := Nat.le_trans h.next h'.next
  size := Nat.le_trans h.size h'.size
  frame r hr hu := by
    obtain ⟨e1, u1⟩ := h.frame r hr hu
    obtain ⟨e2, u2⟩ := h'.frame r (Nat.lt_of_lt_of_le hr h.size) u1
    exact ⟨e2.trans e1, u2⟩
  os := h'.os.trans h.os
  out := h'.out.trans h.out
  ros b n d t hb := h.ros b n d t (h'.ros b n d t hb)
theorem RdAt.ext {ρ ρ' : Rho} {H H' : Hp} {w w' : World} {b n : Nat} {d : AV} {t : T AV} (hx : Ext ρ H w ρ' H' w') (h : RdAt ρ H w b n d t) : RdAt ρ' H' w' b n d t := by
  obtain ⟨r, base, e, h1, h⟩ := h
  refine ⟨r, base, e, hx.sub _ _ h1, fun hn => ?_⟩
  obtain ⟨c, el, fz, h2, h3, h4, h5, h6⟩ := h hn
  obtain ⟨k1, k2⟩ := hx.frame r (Array.getElem?_eq_some_iff.1 h2).1 h6
  exact ⟨c, el, fz, k1.trans h2, h3, h4, fun i hi => let ⟨a, v, q1, q2, q3, q4⟩ := h5 i hi; ⟨a, v, q1, q2, q3.mono hx.sub, q4⟩, k2⟩
theorem Rep.rdx {ρ ρ' : Rho} {H H' : Hp} {w w' : World} (h : Rep ρ H w) (hx : Ext ρ H w ρ' H' w') : ∀ b n d t, H'.fn b = .ro n d t → RdAt ρ' H' w' b n d t :=
  fun b n d t hb => (h.rd b n d t (hx.ros b n d t hb)).ext hx
/-- Only the count of draws differs. -/
def Same (w w' : World) : Prop := w'.heap = w.heap ∧ w'.os = w.os ∧ w'.output = w.output
theorem Same.refl (w : World) : Same w w := ⟨rfl, rfl, rfl⟩
theorem Ext.of_same {ρ : Rho} {H : Hp} {w w' : World} (hs : Same w w') : Ext ρ H w ρ H w' := ⟨ρ.sub_refl, Nat.le_refl _, by rw [hs.1]; exact Nat.le_refl _, fun r _ hu => ⟨by rw [hs.1], hu⟩, hs.2.1, hs.2.2, fun _ _ _ _ h => h⟩
theorem Rep.same {ρ : Rho} {H : Hp} {w w' : World} (hs : Same w w') (h : Rep ρ H w) : Rep ρ H w' :=
  ⟨fun b hb => let ⟨r, base, e, ob, h1, h2, h3⟩ := h.live b hb; ⟨r, base, e, ob, h1, by rw [hs.1]; exact h2, h3⟩, h.inj, h.nxt, h.rdx (Ext.of_same hs)⟩

section
variable {ρ : Rho} {H : Hp} {w : World}
theorem Rep.lt (h : Rep ρ H w) {b : Nat} (hb : Lv (H.fn b)) : b < H.next := by
  obtain ⟨r, base, e, ob, h1, _, _⟩ := h.live b hb
  rcases Nat.lt_or_ge b H.next with hlt | hge
  · exact hlt
  · rw [h.nxt b hge] at h1; cases h1
theorem Rep.rho_lt (h : Rep ρ H w) {b : Nat} {x} (hb : ρ b = some x) : b < H.next := by
  rcases Nat.lt_or_ge b H.next with hlt | hge
  · exact hlt
  · rw [h.nxt b hge] at hb; cases hb
/-- The block that a live one stands for. -/
theorem Rep.at_ (h : Rep ρ H w) {b r base e : Nat} (hb : Lv (H.fn b)) (hr : ρ b = some (r, base, e)) : ∃ ob, w.heap[r]? = some ob ∧ RO ρ (H.fn b) base e ob := by
  obtain ⟨r', base', e', ob, h1, h2, h3⟩ := h.live b hb
  rw [hr] at h1
  injection h1 with h1
  simp only [Prod.mk.injEq] at h1
  obtain ⟨rfl, rfl, rfl⟩ := h1
  exact ⟨ob, h2, h3⟩
theorem Rep.blk_lt (h : Rep ρ H w) {b r base e : Nat} (hb : Lv (H.fn b)) (hr : ρ b = some (r, base, e)) : r < w.heap.size := by
  obtain ⟨ob, h1, _⟩ := h.at_ hb hr
  exact (Array.getElem?_eq_some_iff.1 h1).1

/-! ### New blocks -/
def World.new (w : World) (o : Obj) : World := { w with heap := w.heap.push o }
theorem new_get_old (w : World) (o : Obj) {r : Nat} (hr : r < w.heap.size) : (World.new w o).heap[r]? = w.heap[r]? := by
  simp [World.new, Array.getElem?_push]; omega
theorem new_get_new (w : World) (o : Obj) : (World.new w o).heap[w.heap.size]? = some o := by simp [World.new]
def Rho.put (ρ : Rho) (b : Nat) (x : Nat × Nat × Nat) : Rho := fun c => if c = b then some x else ρ c
theorem Rho.sub_put {ρ : Rho} {b : Nat} {x} (h : ρ b = none) : ρ.sub (ρ.put b x) := by
  intro c y hc
  unfold Rho.put
  split
  · rename_i e; subst e; rw [h] at hc; cases hc
  · exact hc
/-- A new block, whose content may name itself. -/
theorem Rep.alloc (h : Rep ρ H w) {o : AO} {H' : Hp} (ha : H.alloc o = some H') (hd : Lv o) {e : Nat} {ob : Obj} (ho : RO (ρ.put H.next (w.heap.size, 0, e)) o 0 e ob) :
    Rep (ρ.put H.next (w.heap.size, 0, e)) H' (World.new w ob) ∧ Ext ρ H w (ρ.put H.next (w.heap.size, 0, e)) H' (World.new w ob) := by
  obtain ⟨hn, hf⟩ := Hp.alloc_fn ha
  have hnone := h.nxt H.next (Nat.le_refl _)
  have hsub : ρ.sub (ρ.put H.next (w.heap.size, 0, e)) := Rho.sub_put hnone
  have hext : Ext ρ H w (ρ.put H.next (w.heap.size, 0, e)) H' (World.new w ob) := by
    refine ⟨hsub, by omega, by simp [World.new], fun r hr hu => ⟨new_get_old w ob hr, ?_⟩, rfl, rfl, fun b n d t hb => ?_⟩
    · intro b r' x hb hr'
      rw [hf] at hb
      by_cases hbn : b = H.next
      · simp only [Rho.put, hbn, if_true, Option.some.injEq, Prod.mk.injEq] at hr'
        omega
      · rw [if_neg hbn] at hb
        simp only [Rho.put, if_neg hbn] at hr'
        exact hu b r' x hb hr'
    · rw [hf] at hb
      by_cases hbn : b = H.next
      · rw [if_pos hbn] at hb; rw [hb] at hd; exact hd.elim
      · rw [if_neg hbn] at hb; exact hb
  refine ⟨⟨fun b hb => ?_, fun b b' r x r' x' hb hb' hr hr' hne => ?_, fun b hb => ?_, h.rdx hext⟩, hext⟩
  · by_cases hbn : b = H.next
    · subst hbn
      refine ⟨w.heap.size, 0, e, ob, by simp [Rho.put], new_get_new w ob, ?_⟩
      rw [hf, if_pos rfl]; exact ho
    · rw [hf, if_neg hbn] at hb
      obtain ⟨r, base, e', ob', h1, h2, h3⟩ := h.live b hb
      refine ⟨r, base, e', ob', by simp [Rho.put, hbn, h1], ?_, ?_⟩
      · rw [new_get_old w ob (h.blk_lt hb h1)]; exact h2
      · rw [hf, if_neg hbn]; exact h3.mono hsub
  · rw [hf] at hb hb'
    by_cases hbn : b = H.next
    · have hbn' : b' ≠ H.next := fun e => hne (hbn.trans e.symm)
      rw [if_neg hbn'] at hb'
      simp only [Rho.put, hbn, if_true, Option.some.injEq, Prod.mk.injEq] at hr
      simp only [Rho.put, if_neg hbn'] at hr'
      obtain ⟨base, e'⟩ := x'
      have := h.blk_lt hb' hr'
      omega
    · rw [if_neg hbn] at hb
      simp only [Rho.put, if_neg hbn] at hr
      by_cases hbn' : b' = H.next
      · simp only [Rho.put, hbn', if_true, Option.some.injEq, Prod.mk.injEq] at hr'
        obtain ⟨base, e'⟩ := x
        have := h.blk_lt hb hr
        omega
      · rw [if_neg hbn'] at hb'
        simp only [Rho.put, if_neg hbn'] at hr'
        exact h.inj b b' r x r' x' hb hb' hr hr' hne
  · have : b ≠ H.next := by omega
    simp only [Rho.put, if_neg this]
    exact h.nxt b (by omega)

/-! ### A block is written -/
def World.setObj (w : World) (r : Nat) (o : Obj) : World := { w with heap := w.heap.setIfInBounds r o }
theorem Rep.put (h : Rep ρ H w) {b r base e : Nat} {o : AO} {H' : Hp} (hp : H.put b o = some H') (hb : Lv (H.fn b)) (hr : ρ b = some (r, base, e)) (hd : Lv o) {ob : Obj} (ho : RO ρ o base e ob) :
    Rep ρ H' (World.setObj w r ob) ∧ Ext ρ H w ρ H' (World.setObj w r ob) := by
  obtain ⟨hn, hf⟩ := Hp.put_fn hp
  have hlt := h.blk_lt hb hr
  have hdd : ∀ c, Lv (H'.fn c) → Lv (H.fn c) := by
    intro c hc
    rw [hf] at hc
    split at hc
    · rename_i e; subst e; exact hb
    · exact hc
  have hext : Ext ρ H w ρ H' (World.setObj w r ob) := by
    refine ⟨ρ.sub_refl, by omega, by simp [World.setObj], fun r' hr' hu => ⟨?_, fun c r'' x hc hr'' => hu c r'' x (hdd c hc) hr''⟩, rfl, rfl, fun c n d t hc => ?_⟩
    · have hne : r ≠ r' := hu b r _ hb hr
      simp only [World.setObj, Array.getElem?_setIfInBounds_ne hne]
    · rw [hf] at hc
      by_cases hcb : c = b
      · rw [if_pos hcb] at hc; rw [hc] at hd; exact hd.elim
      · rw [if_neg hcb] at hc; exact hc
  refine ⟨⟨fun c hc => ?_, fun c c' r x r' x' hc hc' hr hr' hne => h.inj c c' r x r' x' (hdd c hc) (hdd c' hc') hr hr' hne, fun c hc => h.nxt c (by omega), h.rdx hext⟩, hext⟩
  · by_cases hcb : c = b
    · subst hcb
      refine ⟨r, base, e, ob, hr, by simp [World.setObj, hlt], ?_⟩
      rw [hf, if_pos rfl]; exact ho
    · have hc' := hdd c hc
      obtain ⟨r', base', e', ob', h1, h2, h3⟩ := h.live c hc'
      have hne : r' ≠ r := h.inj c b r' _ r _ hc' hb h1 hr hcb
      refine ⟨r', base', e', ob', h1, ?_, ?_⟩
      · simp only [World.setObj, Array.getElem?_setIfInBounds_ne (Ne.symm hne)]; exact h2
      · rw [hf, if_neg hcb]; exact h3
/-- A block is given up. -/
theorem Rep.kill (h : Rep ρ H w) {b : Nat} {H' : Hp} (hp : H.put b .dead = some H') : Rep ρ H' w ∧ (∀ r, Un ρ H r → Un ρ H' r) ∧ Ext ρ H w ρ H' w := by
  obtain ⟨hn, hf⟩ := Hp.put_fn hp
  have hdd : ∀ c, Lv (H'.fn c) → c ≠ b ∧ Lv (H.fn c) ∧ H'.fn c = H.fn c := by
    intro c hc
    have := hf c
    by_cases hcb : c = b
    · rw [if_pos hcb] at this; rw [this] at hc; exact hc.elim
    · rw [if_neg hcb] at this; exact ⟨hcb, this ▸ hc, this⟩
  have hun : ∀ r, Un ρ H r → Un ρ H' r := fun r hu c r' x hc => hu c r' x (hdd c hc).2.1
  have hext : Ext ρ H w ρ H' w := by
    refine ⟨ρ.sub_refl, by omega, Nat.le_refl _, fun r hr hu => ⟨rfl, hun r hu⟩, rfl, rfl, fun c n d t hc => ?_⟩
    rw [hf] at hc
    by_cases hcb : c = b
    · rw [if_pos hcb] at hc; cases hc
    · rw [if_neg hcb] at hc; exact hc
  exact ⟨⟨fun c hc => by rw [(hdd c hc).2.2]; exact h.live c (hdd c hc).2.1, fun c c' r x r' x' hc hc' => h.inj c c' r x r' x' (hdd c hc).2.1 (hdd c' hc').2.1, fun c hc => h.nxt c (by omega), h.rdx hext⟩, hun, hext⟩
end
end Go.Vex
