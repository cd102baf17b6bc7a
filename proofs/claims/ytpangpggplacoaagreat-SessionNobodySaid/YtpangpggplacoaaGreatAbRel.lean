/- THE ABSTRACT EVALUATOR: how an abstract state and a world belong together. -/
import Derived.Test.YtpangpggplacoaaGreatAbRun
namespace Go.Ab

/-! ### tries -/
theorem pathF_zero (f : Nat) : pathF f 0 = [] := by cases f <;> rfl
theorem pathF_succ (f k : Nat) : pathF (f + 1) (k + 1) = (Nat.beq (k % 2) 0) :: pathF f (k / 2) := rfl
def unpath : List Bool → Nat
  | [] => 0
  | b :: p => 2 * unpath p + (if b then 1 else 2)
theorem unpath_pathF : ∀ f k, k ≤ f → unpath (pathF f k) = k := by
  intro f
  induction f with
  | zero => intro k h; obtain rfl : k = 0 := by omega
            rfl
  | succ f ih =>
    intro k h
    cases k with
    | zero => rfl
    | succ k =>
      rw [pathF_succ, unpath, ih _ (by omega)]
      by_cases h2 : k % 2 = 0
      · have : Nat.beq (k % 2) 0 = true := by rw [h2]; rfl
        simp only [this, if_true]; omega
      · have : Nat.beq (k % 2) 0 = false := by
          cases hb : Nat.beq (k % 2) 0 with
          | false => rfl
          | true => exact absurd (Nat.eq_of_beq_eq_true hb) h2
        simp only [this, Bool.false_eq_true, if_false]; omega
theorem unpath_path (k : Nat) : unpath (path k) = k := unpath_pathF k k (Nat.le_refl k)
theorem path_inj {a b : Nat} (h : path a = path b) : a = b := by rw [← unpath_path a, ← unpath_path b, h]

section
variable {α : Type}
theorem T.get_nil_e : (T.e : T α).get [] = none := rfl
theorem T.get_nil_n (l r : T α) (v : Option α) : (T.n l v r).get [] = v := rfl
theorem T.get_cons_e (b : Bool) (p : List Bool) : (T.e : T α).get (b :: p) = none := rfl
theorem T.get_cons_n (b : Bool) (p : List Bool) (l r : T α) (v : Option α) : (T.n l v r).get (b :: p) = if b then l.get p else r.get p := by cases b <;> rfl
theorem T.set_nil_e (x : α) : (T.e : T α).set [] x = .n .e (some x) .e := rfl
theorem T.set_nil_n (l r : T α) (v : Option α) (x : α) : (T.n l v r).set [] x = .n l (some x) r := rfl
theorem T.set_cons_e (b : Bool) (p : List Bool) (x : α) : (T.e : T α).set (b :: p) x = if b then .n (T.e.set p x) none .e else .n .e none (T.e.set p x) := by cases b <;> rfl
theorem T.set_cons_n (b : Bool) (p : List Bool) (l r : T α) (v : Option α) (x : α) : (T.n l v r).set (b :: p) x = if b then .n (l.set p x) v r else .n l v (r.set p x) := by cases b <;> rfl
theorem T.get_e (p : List Bool) : (T.e : T α).get p = none := by cases p <;> rfl

theorem T.get_set_same (p : List Bool) : ∀ (t : T α) (x : α), (t.set p x).get p = some x := by
  induction p with
  | nil => intro t x; cases t <;> rfl
  | cons b p ih =>
    intro t x
    cases t with
    | e => rw [set_cons_e]; cases b <;> simp [get_cons_n, ih]
    | n l v r => rw [set_cons_n]; cases b <;> simp [get_cons_n, ih]
theorem T.get_set_other (p : List Bool) : ∀ (q : List Bool) (t : T α) (x : α), q ≠ p → (t.set p x).get q = t.get q := by
  induction p with
  | nil =>
    intro q t x h
    cases q with
    | nil => exact absurd rfl h
    | cons b q => cases t <;> simp [set_nil_e, set_nil_n, get_cons_n, get_e]
  | cons b p ih =>
    intro q t x h
    cases q with
    | nil =>
      cases t with
      | e => rw [set_cons_e]; cases b <;> rfl
      | n l v r => rw [set_cons_n]; cases b <;> rfl
    | cons c q =>
      have hne : c = b → q ≠ p := fun hc hq => h (by rw [hc, hq])
      cases t with
      | e =>
        rw [set_cons_e, get_e]
        cases b <;> cases c <;> simp [get_cons_n, get_e]
        · rw [ih q .e x (hne rfl), get_e]
        · rw [ih q .e x (hne rfl), get_e]
      | n l v r =>
        rw [set_cons_n, get_cons_n]
        cases b <;> cases c <;> simp [get_cons_n]
        · exact ih q _ x (hne rfl)
        · exact ih q _ x (hne rfl)
theorem T.get_set (t : T α) (i j : Nat) (x : α) : (t.set (path i) x).get (path j) = if j = i then some x else t.get (path j) := by
  by_cases h : j = i
  · subst h; simp [get_set_same]
  · rw [if_neg h, get_set_other _ _ _ _ (fun hp => h (path_inj hp))]
end

theorem St.at_put (s : St) (i j : Nat) (b : ABlk) : (s.put i b).at j = if j = i then some b else s.at j := T.get_set _ _ _ _
theorem St.at_new (s : St) (j : Nat) (b : ABlk) : (s.new b).at j = if j = s.nx then some b else s.at j := T.get_set _ _ _ _
@[simp] theorem St.nx_put (s : St) (i : Nat) (b : ABlk) : (s.put i b).nx = s.nx := rfl
@[simp] theorem St.nx_new (s : St) (b : ABlk) : (s.new b).nx = s.nx + 1 := rfl

/-! ### lists -/
section
variable {α β : Type}
@[simp] theorem lapp_eq (l m : List α) : lapp l m = l ++ m := by induction l with | nil => rfl | cons a l ih => show a :: lapp l m = _; rw [ih]; rfl
@[simp] theorem lmap_eq (f : α → β) (l : List α) : lmap f l = l.map f := by induction l with | nil => rfl | cons a l ih => show f a :: lmap f l = _; rw [ih]; rfl
@[simp] theorem lall_eq (f : α → Bool) (l : List α) : lall f l = l.all f := by
  induction l with
  | nil => rfl
  | cons a l ih => show (bif f a then lall f l else false) = _; rw [ih]; cases h : f a <;> simp [h]
@[simp] theorem lany_eq (f : α → Bool) (l : List α) : lany f l = l.any f := by
  induction l with
  | nil => rfl
  | cons a l ih => show (bif f a then true else lany f l) = _; rw [ih]; cases h : f a <;> simp [h]
theorem llenA_eq (l : List α) : ∀ n, llenA l n = n + l.length := by
  induction l with
  | nil => intro n; rfl
  | cons a l ih =>
    intro n
    show (bif Nat.beq n 18446744073709551616 then llenA l (Nat.add n 1) else llenA l (Nat.add n 1)) = _
    rw [Bool.cond_self, ih]; show n + 1 + _ = _; simp; omega
@[simp] theorem llen_eq (l : List α) : llen l = l.length := by unfold llen; rw [llenA_eq]; omega
@[simp] theorem lnth_eq (l : List α) : ∀ k, lnth l k = l[k]? := by
  induction l with
  | nil => intro k; rfl
  | cons a l ih =>
    intro k
    cases k with
    | zero => rfl
    | succ k => show lnth l k = _; rw [ih]; simp
theorem consO_some {a : α} {o : Option (List α)} {r : List α} (h : consO a o = some r) : ∃ r', o = some r' ∧ r = a :: r' := by
  cases o with
  | none => cases h
  | some r' => cases h; exact ⟨r', rfl, rfl⟩
theorem takeE_some : ∀ {n : Nat} {l r : List α}, takeE n l = some r → n ≤ l.length ∧ r = l.take n := by
  intro n
  induction n with
  | zero => intro l r h; cases h; exact ⟨Nat.zero_le _, rfl⟩
  | succ n ih =>
    intro l r h
    cases l with
    | nil => cases h
    | cons a l =>
      obtain ⟨r', hr, rfl⟩ := consO_some (show consO a (takeE n l) = some r from h)
      obtain ⟨h1, rfl⟩ := ih hr
      exact ⟨by simpa using h1, rfl⟩
theorem takeE_nil {n : Nat} {r : List α} (h : takeE n ([] : List α) = some r) : n = 0 ∧ r = [] := by
  cases n with
  | zero => cases h; exact ⟨rfl, rfl⟩
  | succ n => cases h
theorem seg_some : ∀ {k n : Nat} {l r : List α}, seg k n l = some r → r = (l.drop k).take n ∧ r.length = n ∧ (n = 0 ∨ k + n ≤ l.length) := by
  intro k
  induction k with
  | zero =>
    intro n l r h
    obtain ⟨h1, h2⟩ := takeE_some (show takeE n l = some r from h)
    subst h2
    exact ⟨rfl, by simp; omega, .inr (by omega)⟩
  | succ k ih =>
    intro n l r h
    cases l with
    | nil =>
      obtain ⟨rfl, rfl⟩ := takeE_nil (show takeE n [] = some r from h)
      exact ⟨by simp, rfl, .inl rfl⟩
    | cons a l =>
      obtain ⟨h1, h2, h3⟩ := ih (show seg k n l = some r from h)
      exact ⟨by simpa using h1, h2, by rcases h3 with h3 | h3; exact .inl h3; exact .inr (by simp; omega)⟩
theorem ovr_some : ∀ {xs l r : List α}, ovr xs l = some r → xs.length ≤ l.length ∧ r = xs ++ l.drop xs.length := by
  intro xs
  induction xs with
  | nil => intro l r h; cases h; exact ⟨Nat.zero_le _, rfl⟩
  | cons x xs ih =>
    intro l r h
    cases l with
    | nil => cases h
    | cons a l =>
      obtain ⟨r', hr, rfl⟩ := consO_some (show consO x (ovr xs l) = some r from h)
      obtain ⟨h1, rfl⟩ := ih hr
      exact ⟨by simpa using h1, by simp⟩
theorem ovr_nil {xs r : List α} (h : ovr xs ([] : List α) = some r) : xs = [] ∧ r = [] := by
  cases xs with
  | nil => cases h; exact ⟨rfl, rfl⟩
  | cons x xs => cases h
/-- writing over: the length stays; what is in the span is new, the rest old -/
theorem setL_some : ∀ {k : Nat} {xs l r : List α}, setL k xs l = some r →
    r.length = l.length ∧ (xs = [] ∨ k + xs.length ≤ l.length) ∧ ∀ i, r[i]? = if k ≤ i ∧ i < k + xs.length then xs[i - k]? else l[i]? := by
  intro k
  induction k with
  | zero =>
    intro xs l r h
    obtain ⟨h1, h2⟩ := ovr_some (show ovr xs l = some r from h)
    subst h2
    refine ⟨by simp; omega, .inr (by omega), fun i => ?_⟩
    by_cases hi : i < xs.length
    · rw [if_pos ⟨Nat.zero_le _, by omega⟩, List.getElem?_append_left hi]; simp
    · rw [if_neg (by omega), List.getElem?_append_right (by omega), List.getElem?_drop]; congr 1; omega
  | succ k ih =>
    intro xs l r h
    cases l with
    | nil =>
      obtain ⟨rfl, rfl⟩ := ovr_nil (show ovr xs [] = some r from h)
      exact ⟨rfl, .inl rfl, fun i => by simp⟩
    | cons a l =>
      obtain ⟨r', hr, rfl⟩ := consO_some (show consO a (setL k xs l) = some r from h)
      obtain ⟨h1, h2, h3⟩ := ih hr
      refine ⟨by simp [h1], by rcases h2 with h2 | h2; exact .inl h2; exact .inr (by simp; omega), fun i => ?_⟩
      cases i with
      | zero => rw [if_neg (by omega)]; rfl
      | succ i =>
        have := h3 i
        simp only [List.getElem?_cons_succ]
        rw [this]
        by_cases hc : k ≤ i ∧ i < k + xs.length
        · rw [if_pos hc, if_pos (by omega)]; congr 1; omega
        · rw [if_neg hc, if_neg (by omega)]
theorem revA_eq (l : List α) : ∀ acc, revA l acc = l.reverse ++ acc := by
  induction l with
  | nil => intro acc; rfl
  | cons a l ih => intro acc; show revA l (a :: acc) = _; rw [ih]; simp
theorem lappX_eq (l m : List α) : lappX l m = lapp l m := by unfold lappX; rw [revA_eq, revA_eq, lapp_eq]; simp
theorem takeE_all (l : List α) : takeE l.length l = some l := by
  induction l with
  | nil => rfl
  | cons a l ih => show consO a (takeE l.length l) = _; rw [ih]; rfl
theorem segX_eq (k n : Nat) (l : List α) : segX k n l = seg k n l := by
  unfold segX
  cases hb : (Nat.beq k 0 && Nat.beq n (llen l)) with
  | false => rfl
  | true =>
    rw [Bool.and_eq_true] at hb
    have h1 := Nat.eq_of_beq_eq_true hb.1
    have h2 := Nat.eq_of_beq_eq_true hb.2
    rw [llen_eq] at h2
    subst h1 h2
    exact (takeE_all l).symm
theorem lbeq_eq : ∀ (x y : List Nat), lbeq x y = (x == y) := by
  intro x
  induction x with
  | nil => intro y; cases y <;> rfl
  | cons a x ih =>
    intro y
    cases y with
    | nil => rfl
    | cons b y =>
      show (bif Nat.beq a b then lbeq x y else false) = _
      rw [ih]
      by_cases h : a = b
      · subst h; simp [Nat.beq_refl]
      · have : Nat.beq a b = false := by
          cases hb : Nat.beq a b with
          | false => rfl
          | true => exact absurd (Nat.eq_of_beq_eq_true hb) h
        rw [this]; simp [h]
end

/-! ### which block an id is -/
inductive Bd where
  | un | dead | live (b C sz : Nat) | val (x : Value)
abbrev Mp := Nat → Bd
/-- a number or a text -/
def plainX : Value → Bool
  | .int _ _ => true
  | .string _ => true
  | _ => false
/-- what no block of the world's stands for any more -/
inductive Gone : Bd → Prop
  | dead : Gone .dead
  | val (x : Value) : Gone (.val x)

def AR (m : Mp) (id off : Nat) (a : Addr) : Prop :=
  match m id with
  | .un => False
  | .dead => True
  | .live b _ _ => a = ⟨b, off, none⟩
  | .val _ => False
/-- an unknown capacity reaches to the block's end -/
def CR (m : Mp) (id off c : Nat) : Prop :=
  match m id with
  | .live _ C sz => off + c * sz = C
  | _ => True
/-- a map, a loop: a block as a whole -/
def MR (m : Mp) (id b : Nat) : Prop :=
  match m id with
  | .un => False
  | .dead => True
  | .live b' _ _ => b = b'
  | .val _ => False
def FnR (m : Mp) : Fn → Fn → Prop
  | .func f, .func g => f = g
  | .yield id, .yield b => MR m id b
  | _, _ => False

mutual
inductive VR (m : Mp) : AV → Value → Prop
  | bool (b : Bool) : VR m (.bool b) (.bool b)
  | int (k : IntKind) (n : Int) : VR m (.int k n) (.int k n)
  | str (l : List Nat) (s : ByteArray) (h : s.data.toList.map UInt8.toNat = l) : VR m (.str l) (.string s)
  | nilp : VR m .nilp (.pointer none)
  | ptr (id off : Nat) (a : Addr) (h : AR m id off a) : VR m (.ptr id off) (.pointer (some a))
  | nils : VR m .nils (.slice none 0 0)
  | sle (a : Addr) (c : Nat) : VR m .sle (.slice (some a) 0 c)
  | sl (id off len : Nat) (cap : Option Nat) (a : Addr) (c : Nat) (h : AR m id off a) (hl : len ≤ c) (hc : ∀ k, cap = some k → c = k) (hu : cap = none → CR m id off c) : VR m (.sl id off len cap) (.slice (some a) len c)
  | nilm : VR m .nilm (.map none)
  | mp (id b : Nat) (h : MR m id b) : VR m (.mp id) (.map (some b))
  | fn (f g : Fn) (x y : List AV) (x' y' : Array Value) (h : FnR m f g) (hx : VRs m x x'.toList) (hy : VRs m y y'.toList) : VR m (.fn f x y) (.func g x' y')
  | nilf : VR m .nilf .nilFunc
  | nili : VR m .nili .nilIface
  | iface (t : TypeId) (v : AV) (v' : Value) (h : VR m v v') : VR m (.iface t v) (.iface t v')
  | agg (l : List AV) (a : Array Value) (h : VRs m l a.toList) : VR m (.agg l) (.agg a)
  | tup (l : List AV) (a : Array Value) (h : VRs m l a.toList) : VR m (.tup l) (.tuple a)
  | var (id it : Nat) (x : Value) (h : m id = .val x) (h1 : plainX x = true) (hk : m it ≠ .un) : VR m (.var id it) x
inductive VRs (m : Mp) : List AV → List Value → Prop
  | nil : VRs m [] []
  | cons (v : AV) (v' : Value) (l : List AV) (l' : List Value) (h : VR m v v') (hl : VRs m l l') : VRs m (v :: l) (v' :: l')
end

def Ext (m m' : Mp) : Prop := ∀ id, match m id with
  | .un => True
  | .dead => m' id = .dead
  | .live b C sz => m' id = .live b C sz ∨ m' id = .dead
  | .val x => m' id = .val x
theorem Ext.refl (m : Mp) : Ext m m := fun id => by cases h : m id <;> simp
theorem Ext.trans {a b c : Mp} (h : Ext a b) (k : Ext b c) : Ext a c := fun id => by
  have h1 := h id
  have h2 := k id
  cases ha : a id with
  | un => trivial
  | dead => rw [ha] at h1; simp only at h1; rw [h1] at h2; exact h2
  | live x C sz =>
    rw [ha] at h1; simp only at h1 ⊢
    rcases h1 with h1 | h1
    · rw [h1] at h2; exact h2
    · rw [h1] at h2; exact .inr h2
  | val x => rw [ha] at h1; simp only at h1; rw [h1] at h2; exact h2

theorem Ext.ne {m m' : Mp} (h : Ext m m') {id : Nat} (k : m id ≠ .un) : m' id ≠ .un := fun e => by
  have h1 := h id
  cases hm : m id with
  | un => exact k hm
  | dead => rw [hm] at h1; simp only at h1; rw [h1] at e; cases e
  | live b C sz => rw [hm] at h1; simp only at h1; rcases h1 with h1 | h1 <;> rw [h1] at e <;> cases e
  | val x => rw [hm] at h1; simp only at h1; rw [h1] at e; cases e
theorem AR.mono {m m' : Mp} (h : Ext m m') {id off : Nat} {a : Addr} (r : AR m id off a) : AR m' id off a := by
  have h1 := h id
  unfold AR at *
  cases hm : m id with
  | un => rw [hm] at r; exact r.elim
  | dead => rw [hm] at h1; simp only at h1; rw [h1]; trivial
  | live b C sz => rw [hm] at h1 r; simp only at h1 r; rcases h1 with h1 | h1 <;> rw [h1]; exact r; trivial
  | val x => rw [hm] at r; exact r.elim
theorem CR.mono {m m' : Mp} (h : Ext m m') {id off c : Nat} (hn : m id ≠ .un) (r : CR m id off c) : CR m' id off c := by
  have h1 := h id
  unfold CR at *
  cases hm : m id with
  | un => exact absurd hm hn
  | dead => rw [hm] at h1; simp only at h1; rw [h1]; trivial
  | live b C sz => rw [hm] at h1 r; simp only at h1 r; rcases h1 with h1 | h1 <;> rw [h1]; exact r; trivial
  | val x => rw [hm] at h1; simp only at h1; rw [h1]; trivial
theorem AR.nv {m : Mp} {id off : Nat} {a : Addr} (r : AR m id off a) (x : Value) : m id ≠ .val x := fun h => by unfold AR at r; rw [h] at r; exact r
theorem AR.ne {m : Mp} {id off : Nat} {a : Addr} (r : AR m id off a) : m id ≠ .un := fun h => by unfold AR at r; rw [h] at r; exact r

theorem MR.ne {m : Mp} {id b : Nat} (r : MR m id b) : m id ≠ .un := fun h => by unfold MR at r; rw [h] at r; exact r
theorem MR.mono {m m' : Mp} (h : Ext m m') {id b : Nat} (r : MR m id b) : MR m' id b := by
  have h1 := h id
  unfold MR at *
  cases hm : m id with
  | un => rw [hm] at r; exact r.elim
  | dead => rw [hm] at h1; simp only at h1; rw [h1]; trivial
  | live b C sz => rw [hm] at h1 r; simp only at h1 r; rcases h1 with h1 | h1 <;> rw [h1]; exact r; trivial
  | val x => rw [hm] at r; exact r.elim
theorem FnR.mono {m m' : Mp} (h : Ext m m') {f g : Fn} (r : FnR m f g) : FnR m' f g := by
  cases f <;> cases g <;> first | exact r.elim | exact r | exact MR.mono h r

mutual
theorem VR.mono {m m' : Mp} (h : Ext m m') : ∀ {v : AV} {x : Value}, VR m v x → VR m' v x
  | _, _, .bool b => .bool b
  | _, _, .int k n => .int k n
  | _, _, .str l s e => .str l s e
  | _, _, .nilp => .nilp
  | _, _, .ptr id off a r => .ptr id off a (r.mono h)
  | _, _, .nils => .nils
  | _, _, .sle a c => .sle a c
  | _, _, .sl id off len cap a c r hl hc hu => .sl id off len cap a c (r.mono h) hl hc (fun e => (hu e).mono h r.ne)
  | _, _, .nilm => .nilm
  | _, _, .mp id b r => .mp id b (r.mono h)
  | _, _, .fn f g x y x' y' r hx hy => .fn f g x y x' y' (r.mono h) (hx.mono h) (hy.mono h)
  | _, _, .nilf => .nilf
  | _, _, .nili => .nili
  | _, _, .iface t v v' r => .iface t v v' (r.mono h)
  | _, _, .agg l a r => .agg l a (r.mono h)
  | _, _, .tup l a r => .tup l a (r.mono h)
  | _, _, .var id it x hi h1 hk => .var id it x (by have := h id; rw [hi] at this; exact this) h1 (h.ne hk)
theorem VRs.mono {m m' : Mp} (h : Ext m m') : ∀ {l : List AV} {x : List Value}, VRs m l x → VRs m' l x
  | _, _, .nil => .nil
  | _, _, .cons v v' l l' r hl => .cons v v' l l' (r.mono h) (hl.mono h)
end

section
variable {m : Mp}
theorem VRs.length {l : List AV} {x : List Value} (h : VRs m l x) : l.length = x.length := by
  induction l generalizing x with
  | nil => cases h; rfl
  | cons a l ih => cases h with | cons _ _ _ _ _ hl => simp [ih hl]
theorem VRs.app {l l2 : List AV} {x x2 : List Value} (h : VRs m l x) (h2 : VRs m l2 x2) : VRs m (l ++ l2) (x ++ x2) := by
  induction l generalizing x with
  | nil => cases h; exact h2
  | cons a l ih => cases h with | cons _ _ _ _ h hl => exact .cons _ _ _ _ h (ih hl)
theorem VRs.nth {l : List AV} {x : List Value} (h : VRs m l x) {i : Nat} {v : AV} (hi : l[i]? = some v) : ∃ v', x[i]? = some v' ∧ VR m v v' := by
  induction l generalizing x i with
  | nil => cases hi
  | cons a l ih =>
    cases h with
    | cons _ v' _ l' h hl =>
      cases i with
      | zero => cases hi; exact ⟨v', rfl, h⟩
      | succ i => exact ih hl (by simpa using hi)
theorem VRs.drop {l : List AV} {x : List Value} (h : VRs m l x) (k : Nat) : VRs m (l.drop k) (x.drop k) := by
  induction k generalizing l x with
  | zero => simpa using h
  | succ k ih => cases h with | nil => exact .nil | cons _ _ _ _ _ hl => exact ih hl
theorem VRs.take {l : List AV} {x : List Value} (h : VRs m l x) (k : Nat) : VRs m (l.take k) (x.take k) := by
  induction k generalizing l x with
  | zero => simpa using VRs.nil
  | succ k ih => cases h with | nil => exact .nil | cons _ _ _ _ h hl => exact .cons _ _ _ _ h (ih hl)
theorem VRs.ofNth {l : List AV} : ∀ {x : List Value}, l.length = x.length → (∀ (i : Nat) (v : AV), l[i]? = some v → ∃ v', x[i]? = some v' ∧ VR m v v') → VRs m l x := by
  induction l with
  | nil => intro x h _; cases x with | nil => exact .nil | cons _ _ => cases h
  | cons a l ih =>
    intro x h hn
    cases x with
    | nil => cases h
    | cons y x =>
      obtain ⟨v', e, r⟩ := hn 0 a rfl
      cases e
      exact .cons _ _ _ _ r (ih (by simpa using h) fun i v hi => by simpa using hn (i + 1) v (by simpa using hi))
/-- the cells of a value -/
theorem VR.cells {v : AV} {x : Value} (h : VR m v x) : VRs m v.cells x.cells.toList := by
  cases h with
  | agg l a h => exact h
  | var id it x h h1 hk =>
    have : x.cells = #[x] := by cases x <;> first | rfl | cases h1
    rw [this]; exact .cons _ _ _ _ (.var _ _ _ h h1 hk) .nil
  | _ => first | (refine .cons _ _ _ _ ?_ .nil; constructor; done) | (refine .cons _ _ _ _ ?_ .nil; constructor <;> assumption)
end

/-! ### blocks -/
structure ER (m : Mp) (e : AE) (e' : MapEntry) : Prop where
  k : VR m e.k e'.key
  v : VR m e.v e'.val
  born : e.born = e'.born
inductive ERs (m : Mp) : List AE → List MapEntry → Prop
  | nil : ERs m [] []
  | cons (e : AE) (e' : MapEntry) (l : List AE) (l' : List MapEntry) (h : ER m e e') (hl : ERs m l l') : ERs m (e :: l) (e' :: l')
theorem ERs.mono {m m' : Mp} (h : Ext m m') {l : List AE} {l' : List MapEntry} (r : ERs m l l') : ERs m' l l' := by
  induction r with
  | nil => exact .nil
  | cons e e' l l' he _ ih => exact .cons _ _ _ _ ⟨he.k.mono h, he.v.mono h, he.born⟩ ih
structure TR (m : Mp) (N : Nat) (t : T AV) (a : Array Value) : Prop where
  size : a.size = N
  get : ∀ k, VR m (Opd.ev t (.tmp (path k))) (a.getD k undef)
theorem TR.mono {m m' : Mp} (h : Ext m m') {N : Nat} {t : T AV} {a : Array Value} (r : TR m N t a) : TR m' N t a := ⟨r.size, fun k => (r.get k).mono h⟩

/-- the entries that a loop has been handed, under their names -/
inductive Hd (m : Mp) (es : List AE) : List Nat → List Nat → Prop
  | nil : Hd m es [] []
  | cons (i : Nat) (vs : List Nat) (j : Nat) (js : List Nat) (e : AE) (x y : Value) (he : es[j]? = some e) (hx : VR m e.k x) (hy : VR m e.v y) (mi : m i = .val x) (mj : m (i + 1) = .val y) (h : Hd m es vs js) : Hd m es (i :: vs) (j :: js)
theorem Hd.mono {m m' : Mp} (h : Ext m m') {es : List AE} {vs js : List Nat} (r : Hd m es vs js) : Hd m' es vs js := by
  induction r with
  | nil => exact .nil
  | cons i vs j js e x y he hx hy mi mj _ ih =>
    refine .cons i vs j js e x y he (hx.mono h) (hy.mono h) ?_ ?_ ih
    · have := h i; rw [mi] at this; exact this
    · have := h (i + 1); rw [mj] at this; exact this
def bornAt (es : List AE) (j : Nat) : Nat := match es[j]? with | some e => e.born | none => 0
inductive BR (P : Program) (m : Mp) (C sz : Nat) : ABlk → Obj → Prop
  | cells (c : List AV) (e : TypeId) (o : Bool) (arr : Array Value) (lo hi : Nat) (hC : arr.size = C) (hsz : sz = P.cellsOf e) (hl : c.length ≤ C) (ho : o = false → c.length = C)
      (hv : VRs m c (arr.toList.take c.length)) (hf : ∀ i, i < C → ¬ (lo ≤ i ∧ i < hi)) (hk : P.underlying e = some (.int .u8) ∨ hi ≤ lo) : BR P m C sz (.cells c e o) (.cells arr e (lo, hi))
  | map (es : List AE) (es' : Array MapEntry) (clock : Nat) (h : ERs m es es'.toList) : BR P m C sz (.map es clock) (.map es' clock)
  | iter (id b since : Nat) (seen : List Nat) (seen' : Array Nat) (stepped : Nat) (h : MR m id b) (hs : seen'.toList = seen.reverse) : BR P m C sz (.iter id since seen stepped) (.mapIter (some b) since seen' stepped)
  | iterN (id b since : Nat) (es : List AE) (vs : List Nat) (js : List Nat) (seen' : Array Nat) (stepped : Nat) (h : MR m id b) (hj : js.Nodup) (hs : seen'.toList = js.reverse.map (bornAt es)) (hd : Hd m es vs js) : BR P m C sz (.iterN id since es vs stepped) (.mapIter (some b) since seen' stepped)
  | nilIter (x : Nat) (y : Array Nat) (z : Nat) : BR P m C sz .nilIter (.mapIter none x y z)
  | loop (st : LoopState) (pend : Option Code) (N : Nat) (t : T AV) (ps : List Tmp) (asg body : Code) (d : Nat) (fn : FuncId) (tmps : Array Value) (ps' : Array Tmp) (d' : Nat)
      (ht : TR m N t tmps) (hp : ps'.toList = ps) (hd : MR m d d') : BR P m C sz (.loop st pend N t ps asg body d) (.loop { state := st, pending := pend, fn, tmps, params := ps', assign := asg, body, defers := d' })
  | dfr : BR P m C sz .dfr (.deferred (some []))
theorem BR.mono {P : Program} {m m' : Mp} (h : Ext m m') {C sz : Nat} {x : ABlk} {o : Obj} (r : BR P m C sz x o) : BR P m' C sz x o := by
  cases r with
  | cells c e o arr lo hi hC hsz hl ho hv hf hk => exact .cells c e o arr lo hi hC hsz hl ho (hv.mono h) hf hk
  | map es es' clock r => exact .map es es' clock (r.mono h)
  | iter id b since seen seen' stepped r hs => exact .iter id b since seen seen' stepped (r.mono h) hs
  | iterN id b since es vs js seen' stepped r hj hs hd => exact .iterN id b since es vs js seen' stepped (r.mono h) hj hs (hd.mono h)
  | nilIter x y z => exact .nilIter x y z
  | loop st pend N t ps asg body d fn tmps ps' d' ht hp hd => exact .loop st pend N t ps asg body d fn tmps ps' d' (ht.mono h) hp (hd.mono h)
  | dfr => exact .dfr

/-! ### states -/
structure R (P : Program) (B : Nat) (m : Mp) (s : St) (w : World) : Prop where
  blk : ∀ id b C sz, id < s.nx → m id = .live b C sz → ∃ x o, s.at id = some x ∧ w.heap[b]? = some o ∧ BR P m C sz x o
  dead : ∀ id, id < s.nx → Gone (m id) → s.at id = some .dfr
  top : ∀ id, s.nx ≤ id → s.at id = none
  base : ∀ id b C sz, m id = .live b C sz → B ≤ b ∧ b < w.heap.size
  inj : ∀ id id' b C sz C' sz', m id = .live b C sz → m id' = .live b C' sz' → id = id'

/-- what a step of both may do -/
structure Stp (m : Mp) (s : St) (w : World) (m' : Mp) (s' : St) (w' : World) : Prop where
  ext : Ext m m'
  low : ∀ id, id < s.nx → m id = .un → m' id = .un ∧ s'.at id = s.at id
  high : ∀ id, s'.nx ≤ id → m' id = m id
  dfr : ∀ id, id < s.nx → s.at id = some .dfr → s'.at id = some .dfr ∧ m' id = m id
  nx : s.nx ≤ s'.nx
  frame : ∀ b, b < w.heap.size → (∀ id C sz, id < s.nx → m id ≠ .live b C sz) → w'.heap[b]? = w.heap[b]?
  size : w.heap.size ≤ w'.heap.size
  fresh : ∀ id b C sz, id < s'.nx → m' id = .live b C sz → w.heap.size ≤ b ∨ ∃ id0 C0 sz0, id0 < s.nx ∧ m id0 = .live b C0 sz0
  os : w'.os = w.os
  tape : w'.tape = w.tape
  output : w'.output = w.output
theorem Stp.refl (m : Mp) (s : St) (w : World) : Stp m s w m s w :=
  ⟨Ext.refl m, fun _ _ h => ⟨h, rfl⟩, fun _ _ => rfl, fun _ _ h => ⟨h, rfl⟩, Nat.le_refl _, fun _ _ _ => rfl, Nat.le_refl _, fun id b C sz h hm => .inr ⟨id, C, sz, h, hm⟩, rfl, rfl, rfl⟩
theorem Stp.trans {m m1 m2 : Mp} {s s1 s2 : St} {w w1 w2 : World} (h : Stp m s w m1 s1 w1) (k : Stp m1 s1 w1 m2 s2 w2) : Stp m s w m2 s2 w2 := by
  refine ⟨h.ext.trans k.ext, fun id hi hu => ?_, fun id hi => ?_, fun id hi hd => ?_, Nat.le_trans h.nx k.nx, fun b hb hn => ?_, Nat.le_trans h.size k.size, fun id b C sz hi hm => ?_, k.os.trans h.os, k.tape.trans h.tape, k.output.trans h.output⟩
  · obtain ⟨a1, a2⟩ := h.low id hi hu
    obtain ⟨b1, b2⟩ := k.low id (Nat.lt_of_lt_of_le hi h.nx) a1
    exact ⟨b1, b2.trans a2⟩
  · exact (k.high id hi).trans (h.high id (Nat.le_trans k.nx hi))
  · obtain ⟨a1, a2⟩ := h.dfr id hi hd
    obtain ⟨b1, b2⟩ := k.dfr id (Nat.lt_of_lt_of_le hi h.nx) a1
    exact ⟨b1, b2.trans a2⟩
  · rw [k.frame b (Nat.lt_of_lt_of_le hb h.size) ?_, h.frame b hb hn]
    intro id C sz hi hm
    rcases h.fresh id b C sz hi hm with h1 | ⟨id0, C0, sz0, h1, h2⟩
    · omega
    · exact hn id0 C0 sz0 h1 h2
  · rcases k.fresh id b C sz hi hm with h1 | ⟨id1, C1, sz1, h1, h2⟩
    · exact .inl (Nat.le_trans h.size h1)
    · exact h.fresh id1 b C1 sz1 h1 h2
/-- nothing but a draw -/
theorem Stp.same {m : Mp} {s : St} {w w' : World} (h : w'.heap = w.heap) (ho : w'.os = w.os) (ht : w'.tape = w.tape) (hu : w'.output = w.output) : Stp m s w m s w' :=
  ⟨Ext.refl m, fun _ _ h => ⟨h, rfl⟩, fun _ _ => rfl, fun _ _ h => ⟨h, rfl⟩, Nat.le_refl _, fun _ _ _ => by rw [h], by rw [h]; exact Nat.le_refl _, fun id b C sz h hm => .inr ⟨id, C, sz, h, hm⟩, ho, ht, hu⟩
theorem R.same {P : Program} {B : Nat} {m : Mp} {s : St} {w w' : World} (r : R P B m s w) (h : w'.heap = w.heap) : R P B m s w' :=
  ⟨fun id b C sz hi hm => by rw [h]; exact r.blk id b C sz hi hm, r.dead, r.top, fun id b C sz hm => by rw [h]; exact r.base id b C sz hm, r.inj⟩

def Fresh (m : Mp) (a b : Nat) : Prop := ∀ id, a ≤ id → id < b → m id = .un

/-- a new block, on both sides -/
def Mp.bind (m : Mp) (i : Nat) (x : Bd) : Mp := fun id => if id = i then x else m id
theorem Ext.bind {m : Mp} {i : Nat} (h : m i = .un) (x : Bd) : Ext m (m.bind i x) := fun id => by
  unfold Mp.bind
  by_cases e : id = i
  · subst e; rw [h]; trivial
  · cases hm : m id <;> simp [e, hm]
theorem R.new {P : Program} {B : Nat} {m : Mp} {s : St} {w w' : World} (r : R P B m s w) (hB : B ≤ w.heap.size) (hf : m s.nx = .un) {x : ABlk} {o : Obj} {C sz : Nat}
    (hw : w'.heap = w.heap.push o) (hb : BR P m C sz x o) :
    R P B (m.bind s.nx (.live w.heap.size C sz)) (s.new x) w' := by
  have he := Ext.bind hf (.live w.heap.size C sz)
  refine ⟨fun id b C' sz' hi hm => ?_, fun id hi hm => ?_, fun id hi => by
    simp only [St.nx_new] at hi; rw [St.at_new, if_neg (by omega)]; exact r.top id (by omega), fun id b C' sz' hm => ?_, fun id id' b C1 sz1 C2 sz2 h1 h2 => ?_⟩
  · unfold Mp.bind at hm
    rw [St.at_new]
    by_cases e : id = s.nx
    · rw [if_pos e] at hm ⊢
      cases hm
      exact ⟨x, o, rfl, by rw [hw]; simp, hb.mono he⟩
    · rw [if_neg e] at hm ⊢
      simp only [St.nx_new] at hi
      obtain ⟨x', o', h1, h2, h3⟩ := r.blk id b C' sz' (by omega) hm
      have hlt := (r.base id b C' sz' hm).2
      exact ⟨x', o', h1, by rw [hw, Array.getElem?_push, if_neg (by omega)]; exact h2, h3.mono he⟩
  · unfold Mp.bind at hm
    rw [St.at_new]
    by_cases e : id = s.nx
    · rw [if_pos e] at hm; cases hm
    · rw [if_neg e] at hm ⊢
      simp only [St.nx_new] at hi
      exact r.dead id (by omega) hm
  · unfold Mp.bind at hm
    rw [hw]
    by_cases e : id = s.nx
    · rw [if_pos e] at hm; cases hm; exact ⟨hB, by simp⟩
    · rw [if_neg e] at hm
      have := r.base id b C' sz' hm
      exact ⟨this.1, by simp; omega⟩
  · unfold Mp.bind at h1 h2
    by_cases e : id = s.nx <;> by_cases e' : id' = s.nx
    · rw [e, e']
    · rw [if_pos e] at h1; rw [if_neg e'] at h2; cases h1
      have := (r.base id' _ _ _ h2).2; omega
    · rw [if_neg e] at h1; rw [if_pos e'] at h2; cases h2
      have := (r.base id _ _ _ h1).2; omega
    · rw [if_neg e] at h1; rw [if_neg e'] at h2; exact r.inj id id' b C1 sz1 C2 sz2 h1 h2
theorem Stp.new {m : Mp} {s : St} {w w' : World} (hf : m s.nx = .un) {x : ABlk} {o : Obj} {C sz : Nat}
    (hw : w'.heap = w.heap.push o) (ho : w'.os = w.os) (ht : w'.tape = w.tape) (hu : w'.output = w.output) :
    Stp m s w (m.bind s.nx (.live w.heap.size C sz)) (s.new x) w' := by
  refine ⟨Ext.bind hf _, fun id hi hm => ?_, fun id hi => ?_, fun id hi hd => ?_, by simp, fun b hb _ => ?_, by rw [hw]; simp, fun id b C' sz' hi hm => ?_, ho, ht, hu⟩
  · rw [St.at_new]; unfold Mp.bind; rw [if_neg (by omega), if_neg (by omega)]; exact ⟨hm, rfl⟩
  · simp only [St.nx_new] at hi; unfold Mp.bind; rw [if_neg (by omega)]
  · rw [St.at_new]; unfold Mp.bind; rw [if_neg (by omega), if_neg (by omega)]; exact ⟨hd, rfl⟩
  · rw [hw, Array.getElem?_push, if_neg (by omega)]
  · unfold Mp.bind at hm
    by_cases e : id = s.nx
    · rw [if_pos e] at hm; cases hm; exact .inl (Nat.le_refl _)
    · rw [if_neg e] at hm; simp only [St.nx_new] at hi; exact .inr ⟨id, C', sz', by omega, hm⟩

/-- a value gets a name -/
theorem R.name {P : Program} {B : Nat} {m : Mp} {s : St} {w : World} (r : R P B m s w) (hf : m s.nx = .un) (x : Value) : R P B (m.bind s.nx (.val x)) (s.new .dfr) w := by
  have he := Ext.bind hf (.val x)
  have hb : ∀ id, id ≠ s.nx → (m.bind s.nx (.val x)) id = m id := fun id h => by unfold Mp.bind; rw [if_neg h]
  have hl : ∀ id b C sz, (m.bind s.nx (.val x)) id = .live b C sz → id ≠ s.nx := fun id b C sz h e => by subst e; unfold Mp.bind at h; rw [if_pos rfl] at h; cases h
  refine ⟨fun id b C' sz' hi hm => ?_, fun id hi hm => ?_, fun id hi => by
    simp only [St.nx_new] at hi; rw [St.at_new, if_neg (by omega)]; exact r.top id (by omega), fun id b C' sz' hm => ?_, fun id id' b C1 sz1 C2 sz2 h1 h2 => ?_⟩
  · have h1 := hl _ _ _ _ hm
    rw [hb _ h1] at hm
    simp only [St.nx_new] at hi
    rw [St.at_new, if_neg h1]
    obtain ⟨x', o', g1, g2, g3⟩ := r.blk id b C' sz' (by omega) hm
    exact ⟨x', o', g1, g2, g3.mono he⟩
  · rw [St.at_new]
    by_cases e : id = s.nx
    · rw [if_pos e]
    · rw [if_neg e]; rw [hb _ e] at hm
      simp only [St.nx_new] at hi
      exact r.dead id (by omega) hm
  · rw [hb _ (hl _ _ _ _ hm)] at hm; exact r.base id b C' sz' hm
  · rw [hb _ (hl _ _ _ _ h1)] at h1; rw [hb _ (hl _ _ _ _ h2)] at h2; exact r.inj id id' b C1 sz1 C2 sz2 h1 h2
theorem Stp.name {m : Mp} {s : St} {w : World} (hf : m s.nx = .un) (x : Value) : Stp m s w (m.bind s.nx (.val x)) (s.new .dfr) w := by
  refine ⟨Ext.bind hf _, fun id hi hm => ?_, fun id hi => ?_, fun id hi hd => ?_, by simp, fun b hb _ => rfl, Nat.le_refl _, fun id b C' sz' hi hm => ?_, rfl, rfl, rfl⟩
  · rw [St.at_new]; unfold Mp.bind; rw [if_neg (by omega), if_neg (by omega)]; exact ⟨hm, rfl⟩
  · simp only [St.nx_new] at hi; unfold Mp.bind; rw [if_neg (by omega)]
  · rw [St.at_new]; unfold Mp.bind; rw [if_neg (by omega), if_neg (by omega)]; exact ⟨hd, rfl⟩
  · unfold Mp.bind at hm
    by_cases e : id = s.nx
    · rw [if_pos e] at hm; cases hm
    · rw [if_neg e] at hm; simp only [St.nx_new] at hi; exact .inr ⟨id, C', sz', by omega, hm⟩

/-- a block that is there is written, on both sides -/
theorem R.put {P : Program} {B : Nat} {m : Mp} {s : St} {w w' : World} (r : R P B m s w) {id b C sz : Nat} (hi : id < s.nx) (hm : m id = .live b C sz) {x : ABlk} {o : Obj}
    (hb : w'.heap[b]? = some o) (hs : w'.heap.size = w.heap.size) (hn : ∀ c, c ≠ b → w'.heap[c]? = w.heap[c]?) (hx : BR P m C sz x o) : R P B m (s.put id x) w' := by
  refine ⟨fun i b' C' sz' hlt hm' => ?_, fun i hlt hm' => ?_, fun i hlt => by
    rw [St.at_put, if_neg (by simp only [St.nx_put] at hlt; omega)]; exact r.top i hlt, fun i b' C' sz' hm' => ?_, r.inj⟩
  · rw [St.at_put]
    by_cases e : i = id
    · subst e; rw [hm] at hm'; cases hm'; rw [if_pos rfl]; exact ⟨x, o, rfl, hb, hx⟩
    · rw [if_neg e]
      obtain ⟨x', o', h1, h2, h3⟩ := r.blk i b' C' sz' hlt hm'
      have : b' ≠ b := fun hbb => by subst hbb; exact e (r.inj _ _ _ _ _ _ _ hm' hm)
      exact ⟨x', o', h1, by rw [hn b' this]; exact h2, h3⟩
  · rw [St.at_put]
    by_cases e : i = id
    · subst e; rw [hm] at hm'; cases hm'
    · rw [if_neg e]; exact r.dead i hlt hm'
  · rw [hs]; exact r.base i b' C' sz' hm'
theorem Stp.put {m : Mp} {s : St} {w w' : World} {id b C sz : Nat} (hi : id < s.nx) (hm : m id = .live b C sz) {x : ABlk} (hk : s.at id ≠ some .dfr)
    (hs : w'.heap.size = w.heap.size) (hn : ∀ c, c ≠ b → w'.heap[c]? = w.heap[c]?) (ho : w'.os = w.os) (ht : w'.tape = w.tape) (hu : w'.output = w.output) : Stp m s w m (s.put id x) w' := by
  refine ⟨Ext.refl m, fun i hlt hun => ?_, fun _ _ => rfl, fun i hlt hd => ?_, Nat.le_refl _, fun c hc hnn => ?_, by rw [hs]; exact Nat.le_refl _, fun i b' C' sz' hlt hm' => .inr ⟨i, C', sz', hlt, hm'⟩, ho, ht, hu⟩
  · rw [St.at_put, if_neg (fun e => by subst e; rw [hm] at hun; cases hun)]; exact ⟨hun, rfl⟩
  · rw [St.at_put, if_neg (fun e => by subst e; exact hk hd)]; exact ⟨hd, rfl⟩
  · exact hn c (fun e => by subst e; exact hnn id C sz hi hm)

/-- what stands where a value points -/
theorem R.live {P : Program} {B : Nat} {m : Mp} {s : St} {w : World} (r : R P B m s w) {id : Nat} (hn : m id ≠ .un) {x : ABlk} (hx : s.at id = some x) (hd : x ≠ .dfr) :
    ∃ b C sz o, id < s.nx ∧ m id = .live b C sz ∧ w.heap[b]? = some o ∧ BR P m C sz x o := by
  have hi : id < s.nx := by
    rcases Nat.lt_or_ge id s.nx with h | h
    · exact h
    · rw [r.top id h] at hx; cases hx
  cases hm : m id with
  | un => exact absurd hm hn
  | dead => have := r.dead id hi (by rw [hm]; exact .dead); rw [hx] at this; cases this; exact absurd rfl hd
  | val y => have := r.dead id hi (by rw [hm]; exact .val y); rw [hx] at this; cases this; exact absurd rfl hd
  | live b C sz =>
    obtain ⟨x', o, h1, h2, h3⟩ := r.blk id b C sz hi hm
    rw [hx] at h1; cases h1
    exact ⟨b, C, sz, o, hi, rfl, h2, h3⟩
end Go.Ab
