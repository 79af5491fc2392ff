/- An abstract machine that is run by the kernel, proved to be followed by the model: first part. No condition. -/
import Derived.Calls
import Derived.Defers
import Derived.Laws.Sem
import Derived.Laws.StructEq
set_option linter.unusedVariables false
set_option linter.unusedSimpArgs false

/- The abstract machine: values, memory, and how they stand for the model's. Generic: no program in sight. -/
namespace Go.Arm

/-- Abstract values: block numbers are abstract ones; a slice's flag says that its capacity may in truth be greater. -/
inductive AV where
  | b (x : Bool)
  | i (k : IntKind) (n : Int)
  | s (l : List Nat)
  | p (id off : Nat)
  | pn
  | sl (id off len cap : Nat) (g : Bool)
  | sn
  | m (id : Nat)
  | mn
  | f (fn : Fn) (first cap : List AV)
  | fnil
  | ifc (t : TypeId) (v : AV)
  | ifn
  | agg (l : List AV)
  | tup (l : List AV)
  deriving Inhabited

/-- Trees for tables: node n has its own value at 0, the odd ones to the left, the even ones to the right. -/
inductive T (α : Type) where
  | leaf
  | node (o : Option α) (l r : T α)

namespace T

/-- A number's way down a tree: nothing for 0, to the left for the odd ones, to the right for the even ones. -/
noncomputable def way (n : Nat) : List Bool :=
  Nat.rec (motive := fun _ => Nat → List Bool) (fun _ => [])
    (fun _ ih n => Bool.rec (motive := fun _ => List Bool)
      (Bool.rec (motive := fun _ => List Bool) (false :: ih (Nat.sub (Nat.div n 2) 1)) (true :: ih (Nat.div n 2)) (Nat.beq (Nat.mod n 2) 1)) [] (Nat.beq n 0)) (Nat.succ n) n

noncomputable def getP {α : Type} (p : List Bool) : T α → Option α :=
  List.rec (motive := fun _ => T α → Option α) (fun t => T.rec (motive := fun _ => Option α) none (fun o _ _ _ _ => o) t)
    (fun b _ ih t => T.rec (motive := fun _ => Option α) none (fun _ l r _ _ => Bool.rec (motive := fun _ => Option α) (ih r) (ih l) b) t) p

noncomputable def setP {α R : Type} (x : Option α) (p : List Bool) : T α → (T α → R) → R :=
  List.rec (motive := fun _ => T α → (T α → R) → R)
    (fun t k => T.rec (motive := fun _ => R) (k (.node x .leaf .leaf)) (fun _ l r _ _ => k (.node x l r)) t)
    (fun b _ ih t k => T.rec (motive := fun _ => R)
      (Bool.rec (motive := fun _ => R) (ih .leaf fun r => k (.node none .leaf r)) (ih .leaf fun l => k (.node none l .leaf)) b)
      (fun o l r _ _ => Bool.rec (motive := fun _ => R) (ih r fun r' => k (.node o l r')) (ih l fun l' => k (.node o l' r)) b) t) p

noncomputable def get {α : Type} (t : T α) (n : Nat) : Option α := getP (way n) t

noncomputable def setK {α R : Type} (x : Option α) (t : T α) (n : Nat) (k : T α → R) : R := setP x (way n) t k

noncomputable def set {α : Type} (x : Option α) (t : T α) (n : Nat) : T α := t.setK x n id

variable {α R : Type}

theorem getP_leaf (p : List Bool) : getP p (leaf : T α) = none := by cases p <;> rfl
theorem get_leaf (n : Nat) : (leaf : T α).get n = none := getP_leaf _

theorem getP_nil (o : Option α) (l r : T α) : getP [] (node o l r) = o := rfl
theorem getP_cons (b : Bool) (p : List Bool) (o : Option α) (l r : T α) : getP (b :: p) (node o l r) = if b then getP p l else getP p r := by cases b <;> rfl

theorem setP_id (x : Option α) (p : List Bool) : ∀ {R : Type} (t : T α) (k : T α → R), setP x p t k = k (setP x p t id) := by
  induction p with
  | nil => intro R t k; cases t <;> rfl
  | cons b p ih =>
    intro R t k
    cases t with
    | leaf =>
      cases b with
      | false =>
        show setP x p leaf (fun r => k (node none leaf r)) = k (setP x p leaf fun r => id (node none leaf r))
        rw [ih leaf fun r => k (node none leaf r), ih leaf fun r => id (node none leaf r)]
        rfl
      | true =>
        show setP x p leaf (fun l => k (node none l leaf)) = k (setP x p leaf fun l => id (node none l leaf))
        rw [ih leaf fun l => k (node none l leaf), ih leaf fun l => id (node none l leaf)]
        rfl
    | node o l r =>
      cases b with
      | false =>
        show setP x p r (fun r' => k (node o l r')) = k (setP x p r fun r' => id (node o l r'))
        rw [ih r fun r' => k (node o l r'), ih r fun r' => id (node o l r')]
        rfl
      | true =>
        show setP x p l (fun l' => k (node o l' r)) = k (setP x p l fun l' => id (node o l' r))
        rw [ih l fun l' => k (node o l' r), ih l fun l' => id (node o l' r)]
        rfl

theorem setK_eq (x : Option α) (t : T α) {R : Type} (n : Nat) (k : T α → R) : t.setK x n k = k (t.set x n) := setP_id x (way n) t k

theorem getP_setP (x : Option α) (p : List Bool) : ∀ (q : List Bool) (t : T α), getP q (setP x p t id) = if q = p then x else getP q t := by
  induction p with
  | nil =>
    intro q t
    cases t <;> cases q with
      | nil => rfl
      | cons b q => cases b <;> first | rfl | (show getP q leaf = none; exact getP_leaf q)
  | cons c p ih =>
    intro q t
    have e1 : setP x (c :: p) (leaf : T α) id = (if c then node none (setP x p leaf id) leaf else node none leaf (setP x p leaf id)) := by
      cases c with
      | false => exact setP_id x p leaf fun r => id (node none leaf r)
      | true => exact setP_id x p leaf fun l => id (node none l leaf)
    have e2 : ∀ o (l r : T α), setP x (c :: p) (node o l r) id = (if c then node o (setP x p l id) r else node o l (setP x p r id)) := fun o l r => by
      cases c with
      | false => exact setP_id x p r fun r' => id (node o l r')
      | true => exact setP_id x p l fun l' => id (node o l' r)
    cases t with
    | leaf =>
      rw [e1]
      cases q with
      | nil => cases c <;> rfl
      | cons b q =>
        cases c <;> cases b <;> simp [getP_cons, ih, getP_leaf]
    | node o l r =>
      rw [e2]
      cases q with
      | nil => cases c <;> rfl
      | cons b q =>
        cases c <;> cases b <;> simp [getP_cons, ih]

def val : List Bool → Nat
  | [] => 0
  | true :: l => 2 * val l + 1
  | false :: l => 2 * val l + 2

noncomputable def wayF (f : Nat) : Nat → List Bool :=
  Nat.rec (motive := fun _ => Nat → List Bool) (fun _ => [])
    (fun _ ih n => Bool.rec (motive := fun _ => List Bool)
      (Bool.rec (motive := fun _ => List Bool) (false :: ih (Nat.sub (Nat.div n 2) 1)) (true :: ih (Nat.div n 2)) (Nat.beq (Nat.mod n 2) 1)) [] (Nat.beq n 0)) f

theorem val_wayF : ∀ (f n : Nat), n < f → val (wayF f n) = n := by
  intro f
  induction f with
  | zero => intro n h; omega
  | succ f ih =>
    intro n h
    show val (Bool.rec (motive := fun _ => List Bool) (Bool.rec (motive := fun _ => List Bool) (false :: wayF f (Nat.sub (Nat.div n 2) 1)) (true :: wayF f (Nat.div n 2)) (Nat.beq (Nat.mod n 2) 1)) [] (Nat.beq n 0)) = n
    have h1 : Nat.beq n 0 = decide (n = 0) := by cases n <;> simp [Nat.beq]
    have h2 : Nat.beq (Nat.mod n 2) 1 = decide (n % 2 = 1) := by
      rw [Bool.eq_iff_iff, Nat.beq_eq]; simp; rfl
    rw [h1, h2]
    by_cases h0 : n = 0
    · simp [h0, val]
    · by_cases h' : n % 2 = 1
      · simp only [h0, h', decide_false, decide_true]
        show 2 * val (wayF f (n / 2)) + 1 = n
        rw [ih _ (by omega)]
        omega
      · simp only [h0, h', decide_false]
        show 2 * val (wayF f (n / 2 - 1)) + 2 = n
        rw [ih _ (by omega)]
        omega

theorem val_way (n : Nat) : val (way n) = n := val_wayF (n + 1) n (by omega)
theorem way_inj {i j : Nat} : way i = way j ↔ i = j := ⟨fun h => by rw [← val_way i, h, val_way], fun h => by rw [h]⟩

theorem get_set (x : Option α) (t : T α) (n j : Nat) : (t.set x n).get j = if j = n then x else t.get j := by
  show getP (way j) (setP x (way n) t id) = _
  rw [getP_setP]
  simp only [way_inj]
  rfl

theorem ext_setP {p : List Bool} : ∀ {t : T α} {x : α}, getP p t = some x → setP (some x) p t id = t := by
  induction p with
  | nil =>
    intro t x h
    cases t with
    | leaf => cases h
    | node o l r =>
      have h : o = some x := h
      subst h
      rfl
  | cons b p ih =>
    intro t x h
    cases t with
    | leaf => cases h
    | node o l r =>
      cases b with
      | false =>
        have h : getP p r = some x := h
        show setP (some x) p r (fun r' => id (node o l r')) = node o l r
        rw [setP_id, ih h]
        rfl
      | true =>
        have h : getP p l = some x := h
        show setP (some x) p l (fun l' => id (node o l' r)) = node o l r
        rw [setP_id, ih h]
        rfl

theorem ext_set {t : T α} {n : Nat} {x : α} (h : t.get n = some x) : t.set (some x) n = t := ext_setP h
end T
end Go.Arm

/- The abstract machine: how abstract values, objects and memory stand for the model's. -/
namespace Go.Arm

/-- Where abstract blocks lie: which are placed, in which block, from which cell on, and how many elements more than said a slice that ends there may have. -/
structure Mu where
  dom : Nat → Prop
  blk : Nat → Nat
  sh : Nat → Nat
  slack : Nat → Nat

def bytesOf (l : List Nat) : ByteArray := ⟨(l.map Nat.toUInt8).toArray⟩

def concFn (μ : Mu) : Fn → Fn
  | .yield l => .yield (μ.blk l)
  | f => f

def DomFn (D : Nat → Prop) : Fn → Prop
  | .yield l => D l
  | _ => True

mutual
def conc (μ : Mu) : AV → Value
  | .b x => .bool x
  | .i k n => .int k n
  | .s l => .string (bytesOf l)
  | .p id off => .pointer (some ⟨μ.blk id, μ.sh id + off, none⟩)
  | .pn => .pointer none
  | .sl id off len cap g => .slice (some ⟨μ.blk id, μ.sh id + off, none⟩) len (if g then cap + μ.slack id else cap)
  | .sn => .slice none 0 0
  | .m id => .map (some (μ.blk id))
  | .mn => .map none
  | .f fn first cap => .func (concFn μ fn) (concL μ first).toArray (concL μ cap).toArray
  | .fnil => .nilFunc
  | .ifc t v => .iface t (conc μ v)
  | .ifn => .nilIface
  | .agg l => .agg (concL μ l).toArray
  | .tup l => .tuple (concL μ l).toArray
def concL (μ : Mu) : List AV → List Value
  | [] => []
  | v :: l => conc μ v :: concL μ l
end

mutual
/-- All blocks of a value are placed, and its texts are of bytes. -/
def Dom (D : Nat → Prop) : AV → Prop
  | .s l => ∀ c ∈ l, c < 256
  | .p id _ => D id
  | .sl id _ _ _ _ => D id
  | .m id => D id
  | .f fn first cap => DomFn D fn ∧ DomL D first ∧ DomL D cap
  | .ifc _ v => Dom D v
  | .agg l => DomL D l
  | .tup l => DomL D l
  | _ => True
def DomL (D : Nat → Prop) : List AV → Prop
  | [] => True
  | v :: l => Dom D v ∧ DomL D l
end

theorem concL_map (μ : Mu) (l : List AV) : concL μ l = l.map (conc μ) := by
  induction l with
  | nil => rfl
  | cons v l ih => simp [concL, ih]

theorem DomL_all {D : Nat → Prop} {l : List AV} : DomL D l ↔ ∀ v ∈ l, Dom D v := by
  induction l with
  | nil => simp [DomL]
  | cons v l ih => simp [DomL, ih]

/-- One placing goes on another one. -/
structure Mu.le (μ μ' : Mu) : Prop where
  dom : ∀ id, μ.dom id → μ'.dom id
  blk : ∀ id, μ.dom id → μ'.blk id = μ.blk id
  sh : ∀ id, μ.dom id → μ'.sh id = μ.sh id
  slack : ∀ id, μ.dom id → μ'.slack id = μ.slack id

theorem Mu.le.refl (μ : Mu) : μ.le μ := ⟨fun _ h => h, fun _ _ => rfl, fun _ _ => rfl, fun _ _ => rfl⟩
theorem Mu.le.trans {a b c : Mu} (h : a.le b) (k : b.le c) : a.le c :=
  ⟨fun id d => k.dom id (h.dom id d), fun id d => (k.blk id (h.dom id d)).trans (h.blk id d), fun id d => (k.sh id (h.dom id d)).trans (h.sh id d),
   fun id d => (k.slack id (h.dom id d)).trans (h.slack id d)⟩

theorem DomFn.mono {D D' : Nat → Prop} (h : ∀ id, D id → D' id) {f : Fn} (d : DomFn D f) : DomFn D' f := by
  cases f <;> first | exact h _ d | exact d

mutual
theorem Dom.mono {D D' : Nat → Prop} (h : ∀ id, D id → D' id) : ∀ v : AV, Dom D v → Dom D' v
  | .p id _, d => by simp only [Dom] at d ⊢; exact h _ d
  | .sl id _ _ _ _, d => by simp only [Dom] at d ⊢; exact h _ d
  | .m id, d => by simp only [Dom] at d ⊢; exact h _ d
  | .f fn first cap, d => by
    simp only [Dom] at d ⊢
    exact ⟨DomFn.mono h d.1, DomL.mono h first d.2.1, DomL.mono h cap d.2.2⟩
  | .ifc _ v, d => by simp only [Dom] at d ⊢; exact Dom.mono h v d
  | .agg l, d => by simp only [Dom] at d ⊢; exact DomL.mono h l d
  | .tup l, d => by simp only [Dom] at d ⊢; exact DomL.mono h l d
  | .s l, d => by simp only [Dom] at d ⊢; exact d
  | .b _, _ | .i _ _, _ | .pn, _ | .sn, _ | .mn, _ | .fnil, _ | .ifn, _ => by simp only [Dom]
theorem DomL.mono {D D' : Nat → Prop} (h : ∀ id, D id → D' id) : ∀ l : List AV, DomL D l → DomL D' l
  | [], _ => by simp only [DomL]
  | v :: l, d => by
    simp only [DomL] at d ⊢
    exact ⟨Dom.mono h v d.1, DomL.mono h l d.2⟩
end

theorem concFn_le {μ μ' : Mu} (h : μ.le μ') {f : Fn} (d : DomFn μ.dom f) : concFn μ' f = concFn μ f := by
  cases f <;> first | rfl | (simp only [concFn]; rw [h.blk _ d])

mutual
theorem conc_le {μ μ' : Mu} (h : μ.le μ') : ∀ v : AV, Dom μ.dom v → conc μ' v = conc μ v
  | .p id _, d => by simp only [Dom] at d; simp only [conc, h.blk _ d, h.sh _ d]
  | .sl id _ _ _ _, d => by simp only [Dom] at d; simp only [conc, h.blk _ d, h.sh _ d, h.slack _ d]
  | .m id, d => by simp only [Dom] at d; simp only [conc, h.blk _ d]
  | .f fn first cap, d => by
    simp only [Dom] at d
    simp only [conc, concFn_le h d.1, concL_le h first d.2.1, concL_le h cap d.2.2]
  | .ifc _ v, d => by simp only [Dom] at d; simp only [conc, conc_le h v d]
  | .agg l, d => by simp only [Dom] at d; simp only [conc, concL_le h l d]
  | .tup l, d => by simp only [Dom] at d; simp only [conc, concL_le h l d]
  | .b _, _ | .i _ _, _ | .s _, _ | .pn, _ | .sn, _ | .mn, _ | .fnil, _ | .ifn, _ => by simp only [conc]
theorem concL_le {μ μ' : Mu} (h : μ.le μ') : ∀ l : List AV, DomL μ.dom l → concL μ' l = concL μ l
  | [], _ => by simp only [concL]
  | v :: l, d => by
    simp only [DomL] at d
    simp only [concL, conc_le h v d.1, concL_le h l d.2]
end

/-- Deferred calls. -/
inductive ADef where
  | col (r : Nat)
  | fn (f : Fn) (cap args : List AV)

def concD (μ : Mu) : ADef → Deferred
  | .col r => { target := .collected (μ.blk r), args := #[] }
  | .fn f cap args => { target := .fn (concFn μ f) (concL μ cap).toArray, args := (concL μ args).toArray }

def DomD (D : Nat → Prop) : ADef → Prop
  | .col r => D r
  | .fn f cap args => DomFn D f ∧ DomL D cap ∧ DomL D args

theorem DomD.mono {D D' : Nat → Prop} (h : ∀ id, D id → D' id) (d : ADef) (k : DomD D d) : DomD D' d := by
  cases d with
  | col r => exact h _ k
  | fn f cap args => exact ⟨DomFn.mono h k.1, DomL.mono h _ k.2.1, DomL.mono h _ k.2.2⟩

theorem concD_le {μ μ' : Mu} (h : μ.le μ') (d : ADef) (k : DomD μ.dom d) : concD μ' d = concD μ d := by
  cases d with
  | col r => simp only [concD]; rw [h.blk _ k]
  | fn f cap args => simp only [concD, concFn_le h k.1, concL_le h _ k.2.1, concL_le h _ k.2.2]

structure AEnt where
  key : AV
  val : AV
  born : Nat

def concE (μ : Mu) (e : AEnt) : MapEntry := { key := conc μ e.key, val := conc μ e.val, born := e.born }

/-- Slots of a frame: what isn't in the tree is undefined. -/
noncomputable def slot (t : T AV) (n : Nat) : AV := Option.rec (motive := fun _ => AV) (.tup []) (fun v => v) (t.get n)

theorem slot_set (v : AV) (t : T AV) (n j : Nat) : slot (t.set (some v) n) j = if j = n then v else slot t j := by
  unfold slot
  rw [T.get_set]
  by_cases h : j = n <;> simp [h]

theorem tag_mod {s : Nat} (e : Nat) (h : s < 65536) : (s + (e + 1) * 65536) % 65536 = s := by omega
theorem tag_div {s : Nat} (e : Nat) (h : s < 65536) : e + 1 = (s + (e + 1) * 65536) / 65536 := by omega
theorem tag_div0 (e : Nat) : e + 1 = (e + 1) * 65536 / 65536 := by omega

/-- Objects. 'es' of a row: how many cells an element has, if append has made it; and, in steps of 65536, one more than the number of the elements' type, if it is said. -/
inductive AObj where
  | cells (cs : List AV) (es : Nat)
  | map (es : List AEnt) (clock : Nat)
  | mapIter (m : Option Nat) (since : Nat) (seen : List Nat) (last : Nat)
  | loop (st : LoopState) (pend : Option Code) (fn : FuncId) (tm : T AV) (n : Nat) (params : Array Tmp) (assign body : Code) (defers : Nat)
  | deferred (ds : Option (List ADef))

/-- An object of the model stands for an abstract one. -/
def ObjRel (μ : Mu) (id : Nat) (o : AObj) (co : Obj) : Prop :=
  match o with
  | .cells cs es => ∃ c elem fr, co = .cells c elem fr ∧ DomL μ.dom cs ∧ (μ.sh id + cs.length + μ.slack id * (es % 65536) ≤ c.size ∧ (65536 ≤ es → elem + 1 = es / 65536 ∧ μ.sh id = 0)) ∧
      (∀ i v, cs[i]? = some v → c[μ.sh id + i]? = some (conc μ v)) ∧ (∀ k, μ.sh id ≤ k → k < c.size → ¬(fr.1 ≤ k ∧ k < fr.2))
  | .map es clock => co = .map (es.map (concE μ)).toArray clock ∧ ∀ e ∈ es, Dom μ.dom e.key ∧ Dom μ.dom e.val
  | .mapIter m since seen last => co = .mapIter (m.map μ.blk) since seen.toArray last ∧ (∀ r, m = some r → μ.dom r) ∧ μ.sh id = 0
  | .loop st pend fn tm n params assign body defers => μ.dom defers ∧ (∀ j, Dom μ.dom (slot tm j)) ∧
      ∃ tmps : Array Value, tmps.size = n ∧ (∀ j, tmps.getD j undef = conc μ (slot tm j)) ∧
      co = .loop { state := st, pending := pend, fn, tmps, params, assign, body, defers := μ.blk defers }
  | .deferred ds => co = .deferred (ds.map fun l => l.map (concD μ)) ∧ ∀ l, ds = some l → ∀ d ∈ l, DomD μ.dom d

theorem slot_dom_default (D : Nat → Prop) : Dom D (.tup []) := by simp [Dom, DomL]

theorem ObjRel.le {μ μ' : Mu} (h : μ.le μ') {id : Nat} {o : AObj} {co : Obj} (hid : μ.dom id) (r : ObjRel μ id o co) : ObjRel μ' id o co := by
  cases o with
  | cells cs es =>
    obtain ⟨c, elem, fr, rfl, hd, hs, hc, hf⟩ := r
    refine ⟨c, elem, fr, rfl, DomL.mono h.dom _ hd, ?_, fun i v hv => ?_, ?_⟩
    · rw [h.sh _ hid, h.slack _ hid]; exact hs
    · rw [h.sh _ hid, conc_le h v (DomL_all.1 hd v (List.mem_of_getElem? hv))]; exact hc i v hv
    · rw [h.sh _ hid]; exact hf
  | map es clock =>
    obtain ⟨rfl, hd⟩ := r
    refine ⟨?_, fun e he => ⟨Dom.mono h.dom _ (hd e he).1, Dom.mono h.dom _ (hd e he).2⟩⟩
    congr 2
    apply List.map_congr_left
    intro e he
    simp only [concE, conc_le h _ (hd e he).1, conc_le h _ (hd e he).2]
  | mapIter m since seen last =>
    obtain ⟨rfl, hd, hs⟩ := r
    refine ⟨?_, fun r hr => h.dom _ (hd r hr), by rw [h.sh _ hid]; exact hs⟩
    cases m with
    | none => rfl
    | some r => simp only [Option.map_some]; rw [h.blk _ (hd r rfl)]
  | loop st pend fn tm n params assign body defers =>
    obtain ⟨hdd, hd, tmps, hn, ht, rfl⟩ := r
    refine ⟨h.dom _ hdd, fun j => Dom.mono h.dom _ (hd j), tmps, hn, fun j => ?_, ?_⟩
    · rw [ht, conc_le h _ (hd j)]
    · rw [h.blk _ hdd]
  | deferred ds =>
    obtain ⟨rfl, hd⟩ := r
    refine ⟨?_, fun l hl d hm => DomD.mono h.dom _ (hd l hl d hm)⟩
    cases ds with
    | none => rfl
    | some l =>
      simp only [Option.map_some]
      congr 2
      exact List.map_congr_left fun d hm => (concD_le h d (hd l rfl d hm)).symm

/-- Abstract memory. -/
structure H where
  t : T AObj
  nx : Nat

noncomputable def H.get (h : H) (id : Nat) : Option AObj := h.t.get id

/-- The world stands for abstract memory, as far as that is placed. -/
structure Rel (μ : Mu) (h : H) (w : World) : Prop where
  lt : ∀ id, μ.dom id → id < h.nx ∧ μ.blk id < w.heap.size
  obj : ∀ id o, μ.dom id → h.get id = some o → ∃ co, w.heap[μ.blk id]? = some co ∧ ObjRel μ id o co
  inj : ∀ i j, μ.dom i → μ.dom j → h.get i ≠ none → h.get j ≠ none → μ.blk i = μ.blk j → i = j

/-- From one placed memory and world to a later one. -/
structure Adv (μ : Mu) (h : H) (w : World) (μ' : Mu) (h' : H) (w' : World) : Prop where
  rel : Rel μ' h' w'
  le : μ.le μ'
  nx : h.nx ≤ h'.nx
  new : ∀ id, μ'.dom id ↔ μ.dom id ∨ (h.nx ≤ id ∧ id < h'.nx)
  size : w.heap.size ≤ w'.heap.size
  os : w'.os = w.os
  tape : w'.tape = w.tape
  output : w'.output = w.output
  frame : ∀ b, b < w.heap.size → (∀ id, μ.dom id → h.get id ≠ none → μ.blk id ≠ b) → w'.heap[b]? = w.heap[b]?
  img : ∀ id, μ'.dom id → h'.get id ≠ none → (∃ j, μ.dom j ∧ h.get j ≠ none ∧ μ.blk j = μ'.blk id) ∨ w.heap.size ≤ μ'.blk id

theorem Adv.refl {μ : Mu} {h : H} {w : World} (r : Rel μ h w) : Adv μ h w μ h w :=
  ⟨r, Mu.le.refl μ, Nat.le_refl _, fun id => ⟨.inl, fun k => k.elim (fun k => k) fun k => absurd k.2 (by omega)⟩, Nat.le_refl _, rfl, rfl, rfl, fun _ _ _ => rfl,
   fun id d l => .inl ⟨id, d, l, rfl⟩⟩

theorem Adv.trans {μ μ1 μ2 : Mu} {h h1 h2 : H} {w w1 w2 : World} (a : Adv μ h w μ1 h1 w1) (b : Adv μ1 h1 w1 μ2 h2 w2) : Adv μ h w μ2 h2 w2 where
  rel := b.rel
  le := a.le.trans b.le
  nx := Nat.le_trans a.nx b.nx
  new id := by
    rw [b.new, a.new]
    have := a.nx
    have := b.nx
    constructor
    · rintro ((d | d) | d)
      · exact .inl d
      · exact .inr ⟨d.1, by omega⟩
      · exact .inr ⟨by omega, d.2⟩
    · rintro (d | d)
      · exact .inl (.inl d)
      · by_cases k : id < h1.nx
        · exact .inl (.inr ⟨d.1, k⟩)
        · exact .inr ⟨by omega, d.2⟩
  size := Nat.le_trans a.size b.size
  os := b.os.trans a.os
  tape := b.tape.trans a.tape
  output := b.output.trans a.output
  frame k hk hn := by
    rw [b.frame k (Nat.lt_of_lt_of_le hk a.size), a.frame k hk hn]
    intro id d l e
    rcases a.img id d l with ⟨j, dj, lj, ej⟩ | hs
    · exact hn j dj lj (ej.trans e)
    · omega
  img id d l := by
    rcases b.img id d l with ⟨j, dj, lj, ej⟩ | hs
    · rcases a.img j dj lj with ⟨j', dj', lj', ej'⟩ | hs'
      · exact .inl ⟨j', dj', lj', ej'.trans ej⟩
      · exact .inr (by omega)
    · exact .inr (Nat.le_trans a.size hs)

/-- A draw turns nothing. -/
theorem Rel.drawn {μ : Mu} {h : H} {w : World} (r : Rel μ h w) (n : Nat) : Rel μ h { w with drawn := n } := ⟨r.lt, r.obj, r.inj⟩
theorem Adv.drawn {μ μ' : Mu} {h h' : H} {w w' : World} (a : Adv μ h w μ' h' w') (n : Nat) : Adv μ h w μ' h' { w' with drawn := n } :=
  ⟨a.rel.drawn n, a.le, a.nx, a.new, a.size, a.os, a.tape, a.output, a.frame, a.img⟩
theorem Adv.drawn_left {μ μ' : Mu} {h h' : H} {w w' : World} (n : Nat) (a : Adv μ h { w with drawn := n } μ' h' w') : Adv μ h w μ' h' w' :=
  ⟨a.rel, a.le, a.nx, a.new, a.size, a.os, a.tape, a.output, a.frame, a.img⟩
end Go.Arm

/- The abstract machine: new objects, changed objects, cells that are read and written. -/
namespace Go.Arm

/-- One more block is placed. -/
def Mu.new (μ : Mu) (id b sh slack : Nat) : Mu where
  dom j := μ.dom j ∨ j = id
  blk j := if j = id then b else μ.blk j
  sh j := if j = id then sh else μ.sh j
  slack j := if j = id then slack else μ.slack j

theorem Mu.le_new {μ : Mu} {id : Nat} (hid : ¬ μ.dom id) (b s k : Nat) : μ.le (μ.new id b s k) where
  dom j d := .inl d
  blk j d := by simp only [Mu.new]; rw [if_neg]; rintro rfl; exact hid d
  sh j d := by simp only [Mu.new]; rw [if_neg]; rintro rfl; exact hid d
  slack j d := by simp only [Mu.new]; rw [if_neg]; rintro rfl; exact hid d

theorem Mu.new_blk (μ : Mu) (id b s k : Nat) : (μ.new id b s k).blk id = b := by simp [Mu.new]
theorem Mu.new_sh (μ : Mu) (id b s k : Nat) : (μ.new id b s k).sh id = s := by simp [Mu.new]
theorem Mu.new_slack (μ : Mu) (id b s k : Nat) : (μ.new id b s k).slack id = k := by simp [Mu.new]
theorem Mu.new_dom (μ : Mu) (id b s k : Nat) : (μ.new id b s k).dom id := .inr rfl

theorem Rel.not_dom {μ : Mu} {h : H} {w : World} (r : Rel μ h w) : ¬ μ.dom h.nx := fun d => absurd (r.lt _ d).1 (Nat.lt_irrefl _)

theorem H.get_mk (t : T AObj) (n id : Nat) : H.get ⟨t, n⟩ id = t.get id := rfl

/-- Memory with a new object. -/
noncomputable def H.add (h : H) (o : AObj) : H := ⟨h.t.set (some o) h.nx, h.nx + 1⟩
/-- Memory with an object changed, or struck. -/
noncomputable def H.put (h : H) (id : Nat) (o : Option AObj) : H := ⟨h.t.set o id, h.nx⟩

theorem H.get_add (h : H) (o : AObj) (id : Nat) : (h.add o).get id = if id = h.nx then some o else h.get id := T.get_set _ _ _ _
theorem H.get_put (h : H) (k : Nat) (o : Option AObj) (id : Nat) : (h.put k o).get id = if id = k then o else h.get id := T.get_set _ _ _ _

theorem adv_new {μ : Mu} {h : H} {w w' : World} (r : Rel μ h w) (o : AObj) (co : Obj) {k : Nat} (ho : ObjRel (μ.new h.nx w.heap.size 0 k) h.nx o co)
    (hh : w'.heap = w.heap.push co) (h1 : w'.os = w.os) (h2 : w'.tape = w.tape) (h3 : w'.output = w.output) :
    Adv μ h w (μ.new h.nx w.heap.size 0 k) (h.add o) w' := by
  have hle := Mu.le_new r.not_dom w.heap.size 0 k
  have hlt := r.lt
  refine ⟨⟨?_, ?_, ?_⟩, hle, by simp [H.add], ?_, by rw [hh]; simp, h1, h2, h3, ?_, ?_⟩
  · rintro id (d | rfl)
    · have := hlt id d
      rw [hle.blk id d, hh]
      simp only [H.add, Array.size_push]
      omega
    · rw [Mu.new_blk, hh]
      simp [H.add]
  · rintro id o' (d | rfl) hg
    · have hl := hlt id d
      rw [H.get_add, if_neg (by omega)] at hg
      obtain ⟨co', hc, hr⟩ := r.obj id o' d hg
      refine ⟨co', ?_, hr.le hle d⟩
      rw [hle.blk id d, hh, Array.getElem?_push, if_neg (by omega)]
      exact hc
    · rw [H.get_add, if_pos rfl] at hg
      obtain rfl : o = o' := by simpa using hg
      exact ⟨co, by rw [Mu.new_blk, hh]; simp, ho⟩
  · rintro i j (di | rfl) (dj | rfl) li lj e
    · have := hlt i di
      have := hlt j dj
      rw [hle.blk i di, hle.blk j dj] at e
      rw [H.get_add, if_neg (by omega)] at li lj
      exact r.inj i j di dj li lj e
    · rw [hle.blk i di, Mu.new_blk] at e
      have := hlt i di
      omega
    · rw [hle.blk j dj, Mu.new_blk] at e
      have := hlt j dj
      omega
    · rfl
  · intro id
    simp only [Mu.new, H.add]
    constructor
    · rintro (d | rfl)
      · exact .inl d
      · exact .inr ⟨Nat.le_refl _, by omega⟩
    · rintro (d | ⟨h1, h2⟩)
      · exact .inl d
      · exact .inr (by omega)
  · intro b hb _
    rw [hh, Array.getElem?_push, if_neg (by omega)]
  · rintro id (d | rfl) l
    · have := hlt id d
      rw [H.get_add, if_neg (by omega)] at l
      exact .inl ⟨id, d, l, (hle.blk id d).symm⟩
    · exact .inr (by rw [Mu.new_blk]; exact Nat.le_refl _)

theorem adv_upd {μ : Mu} {h : H} {w w' : World} (r : Rel μ h w) {id : Nat} (d : μ.dom id) {o : AObj} (hg : h.get id = some o) (o' : AObj) (co : Obj) (ho : ObjRel μ id o' co)
    (hs : w'.heap.size = w.heap.size) (hco : w'.heap[μ.blk id]? = some co) (hb : ∀ b, b ≠ μ.blk id → w'.heap[b]? = w.heap[b]?)
    (h1 : w'.os = w.os) (h2 : w'.tape = w.tape) (h3 : w'.output = w.output) :
    Adv μ h w μ (h.put id (some o')) w' := by
  have hlive : ∀ j, (h.put id (some o')).get j ≠ none → h.get j ≠ none := by
    intro j hj
    rw [H.get_put] at hj
    split at hj
    · rename_i e; rw [e, hg]; simp
    · exact hj
  refine ⟨⟨?_, ?_, ?_⟩, Mu.le.refl μ, Nat.le_refl _, ?_, by omega, h1, h2, h3, ?_, ?_⟩
  · intro j dj
    have := r.lt j dj
    simp only [H.put]
    omega
  · intro j o2 dj hj
    rw [H.get_put] at hj
    split at hj
    · rename_i e
      subst e
      obtain rfl : o' = o2 := by simpa using hj
      exact ⟨co, hco, ho⟩
    · rename_i e
      obtain ⟨co2, hc2, hr2⟩ := r.obj j o2 dj hj
      refine ⟨co2, ?_, hr2⟩
      rw [hb]
      · exact hc2
      · intro eb
        exact e (r.inj j id dj d (by rw [hj]; simp) (by rw [hg]; simp) eb)
  · intro i j di dj li lj e
    exact r.inj i j di dj (hlive i li) (hlive j lj) e
  · intro j
    simp only [H.put]
    constructor
    · exact .inl
    · rintro (dj | dj)
      · exact dj
      · omega
  · intro b _ hn
    exact hb b (fun e => hn id d (by rw [hg]; simp) e.symm)
  · intro j dj l
    exact .inl ⟨j, dj, hlive j l, rfl⟩

/-- A block's place is taken over by a new one. -/
theorem adv_alias {μ : Mu} {h : H} {w w' : World} (r : Rel μ h w) {id : Nat} (d : μ.dom id) {o : AObj} (hg : h.get id = some o) (o' : AObj) (co : Obj) {s k : Nat}
    (ho : ObjRel (μ.new h.nx (μ.blk id) s k) h.nx o' co)
    (hs : w'.heap.size = w.heap.size) (hco : w'.heap[μ.blk id]? = some co) (hb : ∀ b, b ≠ μ.blk id → w'.heap[b]? = w.heap[b]?)
    (h1 : w'.os = w.os) (h2 : w'.tape = w.tape) (h3 : w'.output = w.output) :
    Adv μ h w (μ.new h.nx (μ.blk id) s k) ((h.put id none).add o') w' := by
  have hle := Mu.le_new r.not_dom (μ.blk id) s k
  have hget : ∀ j, μ.dom j → ((h.put id none).add o').get j ≠ none → j ≠ id ∧ h.get j ≠ none ∧ ((h.put id none).add o').get j = h.get j := by
    intro j dj hj
    have hlt := (r.lt j dj).1
    rw [H.get_add, if_neg (by simp only [H.put]; omega), H.get_put] at hj ⊢
    split at hj
    · exact absurd rfl hj
    · rename_i hne
      exact ⟨hne, hj, by rw [if_neg hne]⟩
  refine ⟨⟨?_, ?_, ?_⟩, hle, by simp [H.add, H.put], ?_, by omega, h1, h2, h3, ?_, ?_⟩
  · rintro j (dj | rfl)
    · have := r.lt j dj
      rw [hle.blk j dj]
      simp only [H.add, H.put]
      omega
    · rw [Mu.new_blk]
      have := r.lt id d
      simp only [H.add, H.put]
      omega
  · rintro j o2 (dj | rfl) hj
    · obtain ⟨hne, hl, he⟩ := hget j dj (by rw [hj]; simp)
      rw [he] at hj
      obtain ⟨co2, hc2, hr2⟩ := r.obj j o2 dj hj
      refine ⟨co2, ?_, hr2.le hle dj⟩
      rw [hle.blk j dj, hb]
      · exact hc2
      · intro eb
        exact hne (r.inj j id dj d hl (by rw [hg]; simp) eb)
    · rw [H.get_add, if_pos (by rfl)] at hj
      obtain rfl : o' = o2 := by simpa using hj
      exact ⟨co, by rw [Mu.new_blk]; exact hco, ho⟩
  · rintro i j (di | rfl) (dj | rfl) li lj e
    · obtain ⟨_, l1, _⟩ := hget i di li
      obtain ⟨_, l2, _⟩ := hget j dj lj
      rw [hle.blk i di, hle.blk j dj] at e
      exact r.inj i j di dj l1 l2 e
    · obtain ⟨hne, l1, _⟩ := hget i di li
      rw [hle.blk i di, Mu.new_blk] at e
      exact absurd (r.inj i id di d l1 (by rw [hg]; simp) e) hne
    · obtain ⟨hne, l1, _⟩ := hget j dj lj
      rw [hle.blk j dj, Mu.new_blk] at e
      exact absurd (r.inj j id dj d l1 (by rw [hg]; simp) e.symm) hne
    · rfl
  · intro j
    simp only [Mu.new, H.add, H.put]
    constructor
    · rintro (dj | rfl)
      · exact .inl dj
      · exact .inr ⟨Nat.le_refl _, by omega⟩
    · rintro (dj | ⟨a1, a2⟩)
      · exact .inl dj
      · exact .inr (by omega)
  · intro b _ hn
    exact hb b (fun e => hn id d (by rw [hg]; simp) e.symm)
  · rintro j (dj | rfl) l
    · obtain ⟨_, l1, _⟩ := hget j dj l
      exact .inl ⟨j, dj, l1, (hle.blk j dj).symm⟩
    · exact .inl ⟨id, d, by rw [hg]; simp, (Mu.new_blk _ _ _ _ _).symm⟩

/-- A block is struck: nothing is known of it any more. -/
theorem adv_kill {μ : Mu} {h : H} {w : World} (r : Rel μ h w) (id : Nat) : Adv μ h w μ (h.put id none) w := by
  have hlive : ∀ j, (h.put id none).get j ≠ none → h.get j ≠ none := by
    intro j hj
    rw [H.get_put] at hj
    split at hj
    · exact absurd rfl hj
    · exact hj
  refine ⟨⟨?_, ?_, ?_⟩, Mu.le.refl μ, Nat.le_refl _, ?_, Nat.le_refl _, rfl, rfl, rfl, fun _ _ _ => rfl, ?_⟩
  · intro j dj
    exact r.lt j dj
  · intro j o2 dj hj
    rw [H.get_put] at hj
    split at hj
    · cases hj
    · exact r.obj j o2 dj hj
  · intro i j di dj li lj e
    exact r.inj i j di dj (hlive i li) (hlive j lj) e
  · intro j
    simp only [H.put]
    constructor
    · exact .inl
    · rintro (dj | dj)
      · exact dj
      · omega
  · intro j dj l
    exact .inl ⟨j, dj, hlive j l, rfl⟩

/-! ### Cells -/

theorem Rel.cell {μ : Mu} {h : H} {w : World} (r : Rel μ h w) {id : Nat} (d : μ.dom id) {cs : List AV} {es : Nat} (hg : h.get id = some (.cells cs es)) {i : Nat} {v : AV}
    (hv : cs[i]? = some v) : w.cell? ⟨μ.blk id, μ.sh id + i, none⟩ = some (conc μ v) ∧ w.frozen? ⟨μ.blk id, μ.sh id + i, none⟩ = false ∧ Dom μ.dom v := by
  obtain ⟨co, hc, c, elem, fr, rfl, hd, ⟨hs, hty⟩, hcs, hf⟩ := r.obj id _ d hg
  have h1 := hcs i v hv
  have hi : i < cs.length := (List.getElem?_eq_some_iff.1 hv).1
  refine ⟨?_, ?_, DomL_all.1 hd v (List.mem_of_getElem? hv)⟩
  · simp [World.cell?, hc, h1]
  · have hlt : μ.sh id + i < c.size := by omega
    have := hf (μ.sh id + i) (by omega) hlt
    simp only [World.frozen?, hc]
    simpa using this

theorem add_none (b o n : Nat) : (⟨b, o, none⟩ : Addr).add n = ⟨b, o + n, none⟩ := by
  unfold Addr.add
  split
  · rename_i h; simp [h]
  · rfl

/-- Some cells in a row. -/
noncomputable def sub (cs : List AV) (off n : Nat) : List AV := (cs.drop off).take n

theorem run_loadCellsFrom {P : Program} {w : World} (b o : Nat) (vs : List Value) :
    ∀ (i : Nat) (acc : Array Value), (∀ j v, vs[j]? = some v → w.cell? ⟨b, o + i + j, none⟩ = some v) →
    (loadCellsFrom ⟨b, o, none⟩ i vs.length acc).run P w = .ok (acc ++ vs.toArray) w := by
  induction vs with
  | nil => intro i acc _; simp [loadCellsFrom]
  | cons v vs ih =>
    intro i acc hc
    have h0 := hc 0 v rfl
    simp only [List.length_cons, loadCellsFrom, Sem.run_bind, run_load, add_none]
    rw [show o + i = o + i + 0 from rfl, h0]
    simp only [Result.andThen_ok]
    rw [ih (i + 1) (acc.push v) (fun j u hu => by
      have := hc (j + 1) u (by simpa using hu)
      rw [show o + (i + 1) + j = o + i + (j + 1) from by omega]
      exact this)]
    simp

theorem Rel.loadCells {μ : Mu} {h : H} {w : World} {P : Program} (r : Rel μ h w) {id : Nat} (d : μ.dom id) {cs : List AV} {es : Nat} (hg : h.get id = some (.cells cs es)) {off n : Nat}
    (hn : off + n ≤ cs.length) : (Go.loadCells ⟨μ.blk id, μ.sh id + off, none⟩ n).run P w = .ok (concL μ (sub cs off n)).toArray w ∧ DomL μ.dom (sub cs off n) := by
  have hl : (concL μ (sub cs off n)).length = n := by
    rw [concL_map]; simp [sub]; omega
  constructor
  · unfold Go.loadCells
    have := run_loadCellsFrom (P := P) (w := w) (μ.blk id) (μ.sh id + off) (concL μ (sub cs off n)) 0 #[] (fun j v hv => by
      rw [concL_map, List.getElem?_map] at hv
      obtain ⟨u, hu, rfl⟩ := Option.map_eq_some_iff.1 hv
      have hj : j < n := by
        have := (List.getElem?_eq_some_iff.1 hu).1
        simp [sub] at this
        omega
      rw [sub, List.getElem?_take, if_pos hj, List.getElem?_drop] at hu
      have := (r.cell d hg hu).1
      rw [show μ.sh id + off + 0 + j = μ.sh id + (off + j) from by omega]
      exact this)
    rw [hl] at this
    simpa using this
  · obtain ⟨co, hc, c, elem, fr, rfl, hd, _⟩ := r.obj id _ d hg
    exact DomL_all.2 fun v hv => DomL_all.1 hd v (List.mem_of_mem_drop (List.mem_of_mem_take hv))

/-- A value that one cell holds. -/
def AV.one : AV → Bool
  | .agg _ | .tup _ => false
  | _ => true

theorem conc_one {μ : Mu} {v : AV} (h : v.one = true) : (conc μ v).oneCell' = true := by
  cases v <;> first | rfl | (simp [AV.one] at h)

/-- Cells laid over others, from a place on. -/
def lay (cs : List AV) (off : Nat) : List AV → List AV
  | [] => cs
  | v :: vs => lay (cs.set off v) (off + 1) vs

theorem lay_length (vs : List AV) : ∀ (cs : List AV) (off : Nat), (lay cs off vs).length = cs.length := by
  induction vs with
  | nil => intro cs off; rfl
  | cons v vs ih => intro cs off; simp only [lay]; rw [ih]; simp

theorem Rel.storeCell {μ : Mu} {h : H} {w : World} {P : Program} (r : Rel μ h w) {id : Nat} (d : μ.dom id) {cs : List AV} {es : Nat} (hg : h.get id = some (.cells cs es)) {off : Nat}
    (hn : off < cs.length) {v : AV} (hv : Dom μ.dom v) (h1 : v.one = true) :
    (store ⟨μ.blk id, μ.sh id + off, none⟩ (conc μ v)).run P w = .ok () (w.setCell ⟨μ.blk id, μ.sh id + off, none⟩ (conc μ v)) ∧
    Adv μ h w μ (h.put id (some (.cells (cs.set off v) es))) (w.setCell ⟨μ.blk id, μ.sh id + off, none⟩ (conc μ v)) := by
  have hc0 := r.cell d hg (i := off) (v := cs[off]) (by simp [hn])
  constructor
  · rw [run_store P w _ _ _ (conc_one h1), hc0.1]
    simp [hc0.2.1]
  · obtain ⟨co, hc, c, elem, fr, rfl, hd, ⟨hs, hty⟩, hcs, hf⟩ := r.obj id _ d hg
    have hb := (r.lt id d).2
    refine adv_upd r d hg (.cells (cs.set off v) es) (.cells (c.setIfInBounds (μ.sh id + off) (conc μ v)) elem fr) ⟨_, _, _, rfl, ?_, ?_, ?_, ?_⟩ ?_ ?_ ?_ rfl rfl rfl
    · refine DomL_all.2 fun u hu => ?_
      rcases List.mem_or_eq_of_mem_set hu with k | k
      · exact DomL_all.1 hd u k
      · rw [k]; exact hv
    · exact ⟨by simpa using hs, hty⟩
    · intro i u hu
      rw [List.getElem?_set] at hu
      split at hu
      · rename_i e
        subst e
        first
          | (split at hu
             · obtain rfl : v = u := by simpa using hu
               rw [Array.getElem?_setIfInBounds_self]
               simp; omega
             · cases hu)
          | (obtain rfl : v = u := by simpa using hu
             rw [Array.getElem?_setIfInBounds_self]
             simp; omega)
      · rename_i e
        rw [Array.getElem?_setIfInBounds_ne (by omega)]
        exact hcs i u hu
    · intro k hk hk2
      exact hf k hk (by simpa using hk2)
    · simp [World.setCell]
    · simp only [World.setCell, Array.getElem?_modify]
      simp [hc]
    · intro b hbn
      simp only [World.setCell, Array.getElem?_modify]
      rw [if_neg (fun e => hbn e.symm)]

theorem H.get_self {h : H} {id : Nat} {o : AObj} : (h.put id (some o)).get id = some o := by rw [H.get_put, if_pos rfl]

/-- Memories that read alike are as good as one another. -/
theorem Rel.ext {μ : Mu} {h h' : H} {w : World} (r : Rel μ h w) (hg : ∀ j, h'.get j = h.get j) (hn : h'.nx = h.nx) : Rel μ h' w :=
  ⟨fun id d => by rw [hn]; exact r.lt id d, fun id o d l => r.obj id o d (by rw [← hg]; exact l), fun i j di dj li lj e => r.inj i j di dj (by rw [← hg]; exact li) (by rw [← hg]; exact lj) e⟩
theorem Adv.ext {μ μ' : Mu} {h h' h2 : H} {w w' : World} (a : Adv μ h w μ' h' w') (hg : ∀ j, h2.get j = h'.get j) (hn : h2.nx = h'.nx) : Adv μ h w μ' h2 w' :=
  ⟨a.rel.ext hg hn, a.le, by rw [hn]; exact a.nx, fun id => by rw [hn]; exact a.new id, a.size, a.os, a.tape, a.output, a.frame, fun id d l => a.img id d (by rw [← hg]; exact l)⟩

theorem Rel.storeCells {μ : Mu} {P : Program} {id : Nat} (d : μ.dom id) (es : Nat) (vs : List AV) : ∀ {h : H} {w : World} (_ : Rel μ h w) {cs : List AV} (_ : h.get id = some (.cells cs es)) {off i : Nat}
    (_ : off + i + vs.length ≤ cs.length) (_ : DomL μ.dom vs) (_ : vs.all AV.one = true),
    ∃ w', (Go.storeCells ⟨μ.blk id, μ.sh id + off, none⟩ (concL μ vs) i).run P w = .ok () w' ∧ Adv μ h w μ (h.put id (some (.cells (lay cs (off + i) vs) es))) w' := by
  induction vs with
  | nil =>
    intro h w r cs hg off i _ _ _
    refine ⟨w, by simp [concL, Go.storeCells], (Adv.refl r).ext (fun j => ?_) rfl⟩
    rw [H.get_put]
    split
    · rename_i e; rw [e, hg]; rfl
    · rfl
  | cons v vs ih =>
    intro h w r cs hg off i hl hd h1
    simp only [List.length_cons] at hl
    simp only [List.all_cons, Bool.and_eq_true] at h1
    obtain ⟨hrun, hadv⟩ := Rel.storeCell (P := P) r d hg (off := off + i) (by omega) hd.1 h1.1
    obtain ⟨w', hrun', hadv'⟩ := ih hadv.rel (cs := cs.set (off + i) v) H.get_self (off := off) (i := i + 1) (by simp; omega) hd.2 h1.2
    refine ⟨w', ?_, (hadv.trans hadv').ext (fun j => ?_) rfl⟩
    · simp only [concL, Go.storeCells, Sem.run_bind, add_none]
      rw [show μ.sh id + off + i = μ.sh id + (off + i) from by omega, hrun]
      exact hrun'
    · rw [H.get_put, H.get_put, H.get_put]
      split
      · rw [show off + (i + 1) = off + i + 1 from by omega]; rfl
      · rfl
end Go.Arm

/- The abstract machine: operations that make a value. -/
namespace Go.Arm

/-- What an operation comes to: a value and memory. -/
def OpV (P : Program) (o : Oper) (ρ : Operand → AV) (h : H) (v : AV) (h' : H) : Prop :=
  ∀ (μ : Mu) (w : World), Rel μ h w → (∀ x ∈ o.op.operands, Dom μ.dom (ρ x)) → ∀ ρc : Operand → Value, (∀ x ∈ o.op.operands, ρc x = conc μ (ρ x)) →
    ∃ μ' w', Adv μ h w μ' h' w' ∧ Dom μ'.dom v ∧ ((execOp ρc o).run P w = .ok (.value (conc μ' v)) w' ∨ ((execOp ρc o).run P w = .ok .skip w' ∧ v = .tup []))

variable {P : Program} {o : Oper} {ρ : Operand → AV} {h : H}

/-- An operation that leaves memory alone. -/
theorem opV_pure {v : AV} (H0 : ∀ (μ : Mu) (w : World), Rel μ h w → (∀ x ∈ o.op.operands, Dom μ.dom (ρ x)) → ∀ ρc : Operand → Value, (∀ x ∈ o.op.operands, ρc x = conc μ (ρ x)) →
    Dom μ.dom v ∧ (execOp ρc o).run P w = .ok (.value (conc μ v)) w) : OpV P o ρ h v h := by
  intro μ w r hd ρc hc
  obtain ⟨h1, h2⟩ := H0 μ w r hd ρc hc
  exact ⟨μ, w, Adv.refl r, h1, .inl h2⟩

theorem opV_move {x : Operand} (ho : o.op = .move x) : OpV P o ρ h (ρ x) h :=
  opV_pure fun μ w r hd ρc hc => ⟨hd x (by simp [ho, Op.operands]), by simp [execOp, ho, hc x (by simp [ho, Op.operands])]⟩

theorem opV_assign {x : Operand} (ho : o.op = .assign x) : OpV P o ρ h (ρ x) h :=
  opV_pure fun μ w r hd ρc hc => ⟨hd x (by simp [ho, Op.operands]), by simp [execOp, ho, hc x (by simp [ho, Op.operands])]⟩

theorem opV_pick {c a b : Operand} (ho : o.op = .pick c a b) {t : Bool} (ht : ρ c = .b t) : OpV P o ρ h (if t then ρ a else ρ b) h :=
  opV_pure fun μ w r hd ρc hc => by
    have e1 := hc c (by simp [ho, Op.operands])
    have e2 := hc a (by simp [ho, Op.operands])
    have e3 := hc b (by simp [ho, Op.operands])
    have d2 := hd a (by simp [ho, Op.operands])
    have d3 := hd b (by simp [ho, Op.operands])
    rw [ht] at e1
    cases t
    · exact ⟨d3, by simp [execOp, ho, e1, e3, conc, asBool]⟩
    · exact ⟨d2, by simp [execOp, ho, e1, e2, conc, asBool]⟩

/-! ### Ground values -/

/-- A scalar of the program's text. -/
def ofV1 : Value → Option AV
  | .bool b => some (.b b)
  | .int k n => some (.i k n)
  | .string b => some (.s (b.data.toList.map UInt8.toNat))
  | .pointer none => some .pn
  | .slice none 0 0 => some .sn
  | .map none => some .mn
  | .func (.func f) a c => if a.isEmpty && c.isEmpty then some (.f (.func f) [] []) else none
  | .nilFunc => some .fnil
  | .nilIface => some .ifn
  | _ => none

def ofVL : List Value → Option (List AV)
  | [] => some []
  | v :: l => match ofV1 v with
    | some a => match ofVL l with
      | some m => some (a :: m)
      | none => none
    | none => none

def ofV : Value → Option AV
  | .agg cs => (ofVL cs.toList).map .agg
  | v => ofV1 v

theorem bytesOf_toNat (b : ByteArray) : bytesOf (b.data.toList.map UInt8.toNat) = b := by
  have : (b.data.toList.map UInt8.toNat).map Nat.toUInt8 = b.data.toList := by
    rw [List.map_map]
    conv => rhs; rw [← List.map_id b.data.toList]
    exact List.map_congr_left fun x _ => by simp
  unfold bytesOf
  rw [this]

theorem ofV1_conc {v : Value} {a : AV} (e : ofV1 v = some a) (μ : Mu) : conc μ a = v ∧ (∀ D, Dom D a) ∧ v.cells = #[v] := by
  unfold ofV1 at e
  split at e
  all_goals first
    | cases e; done
    | (obtain rfl := Option.some.inj e; simp [conc, Dom, Value.cells]; done)
    | skip
  · obtain rfl := Option.some.inj e
    refine ⟨by simp [conc, bytesOf_toNat], fun D => ?_, by simp [Value.cells]⟩
    simp only [Dom]
    intro c hc
    obtain ⟨u, _, rfl⟩ := List.mem_map.1 hc
    exact u.toNat_lt
  · split at e
    · rename_i hh
      obtain rfl := Option.some.inj e
      simp only [Bool.and_eq_true, Array.isEmpty_iff] at hh
      simp [conc, Dom, DomL, DomFn, concL, concFn, Value.cells, hh.1, hh.2]
    · cases e

theorem ofVL_conc {l : List Value} : ∀ {m : List AV}, ofVL l = some m → ∀ μ, concL μ m = l ∧ ∀ D, DomL D m := by
  induction l with
  | nil => intro m e μ; obtain rfl := Option.some.inj e; simp [concL, DomL]
  | cons v l ih =>
    intro m e μ
    simp only [ofVL] at e
    split at e
    · rename_i a ha
      split at e
      · rename_i m' hm
        obtain rfl := Option.some.inj e
        obtain ⟨h1, h2⟩ := ih hm μ
        obtain ⟨h3, h4, _⟩ := ofV1_conc ha μ
        exact ⟨by simp [concL, h1, h3], fun D => ⟨h4 D, h2 D⟩⟩
      · cases e
    · cases e

theorem ofV_conc {v : Value} {a : AV} (e : ofV v = some a) (μ : Mu) : conc μ a = v ∧ ∀ D, Dom D a := by
  unfold ofV at e
  split at e
  · rename_i cs
    obtain ⟨m, hm, rfl⟩ := Option.map_eq_some_iff.1 e
    obtain ⟨h1, h2⟩ := ofVL_conc hm μ
    exact ⟨by simp [conc, h1], fun D => by simp only [Dom]; exact h2 D⟩
  · obtain ⟨h1, h2, _⟩ := ofV1_conc e μ
    exact ⟨h1, h2⟩

/-- A value's cells. -/
def acells : AV → List AV
  | .agg l => l
  | v => [v]

theorem acells_conc (μ : Mu) (v : AV) : (conc μ v).cells = (concL μ (acells v)).toArray := by
  cases v <;> simp [conc, acells, concL, Value.cells]

theorem acells_dom {D : Nat → Prop} {v : AV} (d : Dom D v) : DomL D (acells v) := by
  cases v <;> first | exact ⟨d, trivial⟩ | exact d

/-- The cells of a type's zero value. -/
def zeroA (P : Program) (t : TypeId) : Option (List AV) :=
  match (P.info? t).bind (·.zero) with
  | some v => (ofV v).map acells
  | none => none

theorem zeroA_run {P : Program} {t : TypeId} {l : List AV} (e : zeroA P t = some l) (w : World) :
    ∃ v a, (zeroValue t).run P w = .ok v w ∧ ofV v = some a ∧ acells a = l := by
  unfold zeroA at e
  split at e
  · rename_i v hv
    obtain ⟨a, ha, rfl⟩ := Option.map_eq_some_iff.1 e
    obtain ⟨i, hi, hz⟩ := Option.bind_eq_some_iff.1 hv
    exact ⟨v, a, by simp [zeroValue, typeInfo, hi, hz], ha, rfl⟩
  · cases e

theorem zeroA_cells {P : Program} {t : TypeId} {l : List AV} (e : zeroA P t = some l) (w : World) :
    ∃ v, (zeroValue t).run P w = .ok v w ∧ ∀ μ, v.cells = (concL μ l).toArray ∧ ∀ D, DomL D l := by
  obtain ⟨v, a, h1, h2, rfl⟩ := zeroA_run e w
  refine ⟨v, h1, fun μ => ⟨?_, fun D => acells_dom ((ofV_conc h2 μ).2 D)⟩⟩
  rw [← (ofV_conc h2 μ).1, acells_conc]

/-! ### New cells -/

theorem new_cells {μ : Mu} {w : World} (r : Rel μ h w) (elem : TypeId) {l : List AV} (d : DomL μ.dom l) (es : Nat) (hes : 65536 ≤ es → elem + 1 = es / 65536) :
    Adv μ h w (μ.new h.nx w.heap.size 0 0) (h.add (.cells l es)) { w with heap := w.heap.push (.cells (concL μ l).toArray elem) } := by
  have hle := Mu.le_new r.not_dom w.heap.size 0 0
  refine adv_new r _ _ ⟨_, _, _, rfl, DomL.mono hle.dom _ d, ?_, ?_, ?_⟩ rfl rfl rfl rfl
  · exact ⟨by rw [Mu.new_sh, Mu.new_slack, concL_map]; simp, fun k => ⟨hes k, Mu.new_sh _ _ _ _ _⟩⟩
  · intro i v hv
    rw [Mu.new_sh, conc_le hle v (DomL_all.1 d v (List.mem_of_getElem? hv)), concL_map]
    simp [hv]
  · intro k _ _ hk
    exact absurd hk.2 (by omega)

theorem opV_alloc {elem : TypeId} (ho : o.op = .alloc elem) {l : List AV} (hz : zeroA P elem = some l) : OpV P o ρ h (.p h.nx 0) (h.add (.cells l ((elem + 1) * 65536))) := by
  intro μ w r hd ρc hc
  obtain ⟨v, hv, hl⟩ := zeroA_cells hz w
  refine ⟨_, _, new_cells r elem ((hl μ).2 _) ((elem + 1) * 65536) (fun _ => tag_div0 elem), by simp [Dom, Mu.new], .inl ?_⟩
  simp [execOp, ho, Instr.alloc, hv, newVar, newRow, (hl μ).1, conc, Mu.new_blk, Mu.new_sh]

theorem opV_box {elem : TypeId} {x : Operand} (ho : o.op = .box elem x) : OpV P o ρ h (.p h.nx 0) (h.add (.cells (acells (ρ x)) 0)) := by
  intro μ w r hd ρc hc
  have e := hc x (by simp [ho, Op.operands])
  have d := hd x (by simp [ho, Op.operands])
  refine ⟨_, _, new_cells r elem (acells_dom d) 0 (by omega), by simp [Dom, Mu.new], .inl ?_⟩
  simp [execOp, ho, Instr.box, newVar, newRow, e, acells_conc, conc, Mu.new_blk, Mu.new_sh]

/-! ### Aggregates that are built -/

theorem sizeOf_run {P : Program} {t : TypeId} {n : Nat} (e : (P.info? t).map (·.size) = some n) (w : World) : (Go.sizeOf t).run P w = .ok n w := by
  obtain ⟨i, hi, rfl⟩ := Option.map_eq_some_iff.1 e
  simp [Go.sizeOf, typeInfo, hi]

def tsize (P : Program) (t : TypeId) : Option Nat := (P.info? t).map (·.size)

/-- Parts laid into cells: where, how many, what. -/
def afill (place : Nat → Option (Nat × Nat)) (cells : List AV) : List (Nat × AV) → Option (List AV)
  | [] => some cells
  | (i, v) :: rest =>
    match place i with
    | none => none
    | some (off, size) =>
      if (acells v).length = size ∧ off + size ≤ cells.length then afill place (lay cells off (acells v)) rest else none

theorem lay_conc (μ : Mu) (vs : List AV) : ∀ (cs : List AV) (off : Nat),
    (concL μ (lay cs off vs)).toArray = ((concL μ vs).toArray.zipIdx.foldl (fun cs (x : Value × Nat) => cs.setIfInBounds (off + x.2) x.1) (concL μ cs).toArray) := by
  suffices ∀ (cs : List AV) (off j : Nat), (concL μ (lay cs (off + j) vs)).toArray = (((concL μ vs).zipIdx j).foldl (fun cs (x : Value × Nat) => cs.setIfInBounds (off + x.2) x.1) (concL μ cs).toArray) by
    intro cs off
    have h := this cs off 0
    rw [Nat.add_zero] at h
    rw [h, ← Array.foldl_toList]
    simp
  induction vs with
  | nil => intro cs off j; simp [lay, concL]
  | cons v vs ih =>
    intro cs off j
    simp only [lay, concL, List.zipIdx_cons, List.foldl_cons]
    rw [show off + j + 1 = off + (j + 1) from by omega, ih]
    congr 1
    rw [concL_map, concL_map]
    simp [List.map_set]

theorem DomL_lay {D : Nat → Prop} (vs : List AV) : ∀ (cs : List AV) (off : Nat), DomL D cs → DomL D vs → DomL D (lay cs off vs) := by
  induction vs with
  | nil => intro cs off h _; exact h
  | cons v vs ih =>
    intro cs off h k
    refine ih _ _ (DomL_all.2 fun u hu => ?_) k.2
    rcases List.mem_or_eq_of_mem_set hu with m | m
    · exact DomL_all.1 h u m
    · rw [m]; exact k.1

theorem afill_conc (μ : Mu) {place : Nat → Option (Nat × Nat)} {parts : List (Nat × AV)} : ∀ {cells out : List AV}, afill place cells parts = some out →
    DomL μ.dom cells → (∀ x ∈ parts, Dom μ.dom x.2) →
    Instr.fill place (concL μ cells).toArray (parts.map fun x => (x.1, conc μ x.2)) = some (concL μ out).toArray ∧ DomL μ.dom out := by
  induction parts with
  | nil => intro cells out e d _; obtain rfl := Option.some.inj e; exact ⟨rfl, d⟩
  | cons x parts ih =>
    intro cells out e d dp
    obtain ⟨i, v⟩ := x
    simp only [afill] at e
    split at e
    · cases e
    · rename_i off size hp
      split at e
      · rename_i hs
        have dv := dp (i, v) (by simp)
        obtain ⟨h1, h2⟩ := ih e (DomL_lay _ _ _ d (acells_dom dv)) (fun y hy => dp y (by simp [hy]))
        refine ⟨?_, h2⟩
        simp only [List.map_cons, Instr.fill, hp, acells_conc]
        have e1 : (concL μ (acells v)).length = size := by rw [concL_map]; simp [hs.1]
        have e2 : (concL μ cells).length = cells.length := by rw [concL_map]; simp
        rw [if_neg (by simp [e1, e2, hs.2])]
        rw [lay_conc] at h1
        exact h1
      · cases e

/-- The places of a struct's fields. -/
def fplaces (P : Program) : List Field → Option (List (Nat × Nat))
  | [] => some []
  | f :: l => match tsize P f.type with
    | some n => match fplaces P l with
      | some m => some ((f.offset, n) :: m)
      | none => none
    | none => none

theorem fplaces_run {P : Program} (w : World) {l : List Field} : ∀ {m : List (Nat × Nat)}, fplaces P l = some m →
    (l.mapM (m := Sem) fun f => Prod.mk f.offset <$> Go.sizeOf f.type).run P w = .ok m w := by
  induction l with
  | nil => intro m e; obtain rfl := Option.some.inj e; rfl
  | cons f l ih =>
    intro m e
    simp only [fplaces] at e
    split at e
    · rename_i n hn
      split at e
      · rename_i m' hm
        obtain rfl := Option.some.inj e
        rw [List.mapM_cons]
        simp [sizeOf_run hn]
        rw [ih hm]; rfl
      · cases e
    · cases e

def buildA (P : Program) (t : TypeId) (parts : List (Nat × AV)) : Option (List AV) :=
  match zeroA P t, P.underlying t with
  | some zero, some (.struct fields) => match fplaces P fields.toList with
    | some places => afill (places[·]?) zero parts
    | none => none
  | some zero, some (.array _ elem) => match tsize P elem with
    | some size => afill (fun i => some (i * size, size)) zero parts
    | none => none
  | _, _ => none

theorem opV_build {t : TypeId} {parts : Array (Nat × Operand)} (ho : o.op = .build t parts) {l : List AV} (hl : buildA P t (parts.toList.map fun x => (x.1, ρ x.2)) = some l) :
    OpV P o ρ h (.agg l) h :=
  opV_pure fun μ w r hd ρc hc => by
    have hpd : ∀ x ∈ parts.toList.map (fun x => (x.1, ρ x.2)), Dom μ.dom x.2 := by
      intro x hx
      obtain ⟨y, hy, rfl⟩ := List.mem_map.1 hx
      exact hd y.2 (by simp [ho, Op.operands]; exact ⟨y.1, by simpa using hy⟩)
    have hpc : (parts.map fun x => (x.1, ρc x.2)).toList = (parts.toList.map fun x => (x.1, ρ x.2)).map fun x => (x.1, conc μ x.2) := by
      simp only [Array.toList_map, List.map_map]
      refine List.map_congr_left fun y hy => ?_
      simp only [Function.comp]
      rw [hc y.2 (by simp [ho, Op.operands]; exact ⟨y.1, by simpa using hy⟩)]
    unfold buildA at hl
    split at hl
    · rename_i zero fields hz hu
      split at hl
      · rename_i places hp
        obtain ⟨v, hv, hcells⟩ := zeroA_cells hz w
        obtain ⟨h1, h2⟩ := afill_conc μ hl ((hcells μ).2 _) hpd
        refine ⟨by simp only [Dom]; exact h2, ?_⟩
        have hm := fplaces_run (P := P) w hp
        have hm' : (fields.mapM (m := Sem) fun f => do pure (f.offset, ← Go.sizeOf f.type)).run P w = .ok places.toArray w := by
          rw [← Array.toArray_toList (xs := fields), List.mapM_toArray]
          simp
          rw [hm]; rfl
        simp only [execOp, ho, Instr.build, Sem.run_bind, hv, Result.andThen_ok, underlying, run_program, hu, Sem.run_pure, hm', (hcells μ).1]
        rw [hpc]
        have : (fun i : Nat => places.toArray[i]?) = (fun i : Nat => places[i]?) := by funext i; simp
        rw [this, h1]
        simp [conc]
      · cases hl
    · rename_i zero n elem hz hu
      split at hl
      · rename_i size hs
        obtain ⟨v, hv, hcells⟩ := zeroA_cells hz w
        obtain ⟨h1, h2⟩ := afill_conc μ hl ((hcells μ).2 _) hpd
        refine ⟨by simp only [Dom]; exact h2, ?_⟩
        simp only [execOp, ho, Instr.build, Sem.run_bind, hv, Result.andThen_ok, underlying, run_program, hu, Sem.run_pure, sizeOf_run hs, (hcells μ).1]
        rw [hpc, h1]
        simp [conc]
      · cases hl
    · cases hl
end Go.Arm

/- The abstract machine: more operations that make a value: rows, loads, stores, numbers. -/
namespace Go.Arm
variable {P : Program} {o : Oper} {ρ : Operand → AV} {h : H}

/-- A zero laid many times. -/
def rep (zero : List AV) : Nat → List AV
  | 0 => []
  | n + 1 => zero ++ rep zero n

theorem rep_length (zero : List AV) (n : Nat) : (rep zero n).length = n * zero.length := by
  induction n with
  | zero => simp [rep]
  | succ n ih => simp [rep, ih, Nat.succ_mul]; omega

theorem rep_get (zero : List AV) (n : Nat) : ∀ i, i < n * zero.length → (rep zero n)[i]? = zero[i % zero.length]? := by
  induction n with
  | zero => intro i hi; omega
  | succ n ih =>
    intro i hi
    rw [Nat.succ_mul] at hi
    simp only [rep]
    by_cases hlt : i < zero.length
    · rw [List.getElem?_append_left hlt, Nat.mod_eq_of_lt hlt]
    · rw [List.getElem?_append_right (by omega), ih _ (by omega)]
      congr 1
      rw [← Nat.mod_eq_sub_mod (by omega)]

theorem rep_dom {D : Nat → Prop} {zero : List AV} (d : DomL D zero) (n : Nat) : DomL D (rep zero n) := by
  induction n with
  | zero => trivial
  | succ n ih =>
    refine DomL_all.2 fun v hv => ?_
    rcases List.mem_append.1 hv with k | k
    · exact DomL_all.1 d v k
    · exact DomL_all.1 ih v k

theorem rep_conc (μ : Mu) (zero : List AV) (n k : Nat) (hk : k = n * zero.length) :
    (Array.range k).map (fun i => (concL μ zero).toArray[i % (concL μ zero).toArray.size]!) = (concL μ (rep zero n)).toArray := by
  subst hk
  apply Array.ext
  · rw [concL_map μ (rep zero n)]; simp [rep_length]
  · intro i h1 h2
    have hi : i < n * zero.length := by simpa using h1
    have hz : 0 < zero.length := by
      rcases Nat.eq_zero_or_pos zero.length with e | e
      · rw [e] at hi; omega
      · exact e
    have hm : i % zero.length < zero.length := Nat.mod_lt _ hz
    have hr := rep_get zero n i hi
    have hil : i < (rep zero n).length := by rw [rep_length]; exact hi
    rw [List.getElem?_eq_getElem hil, List.getElem?_eq_getElem hm] at hr
    have hr' : (rep zero n)[i] = zero[i % zero.length] := by simpa using hr
    simp only [concL_map]
    simp [hr', hm]

def bsA (P : Program) (t : TypeId) (len : Nat) (parts : List (Nat × AV)) : Option (List AV) :=
  match P.underlying t with
  | some (.slice elem) => match tsize P elem with
    | some size =>
      if len * size > 2 ^ 24 then none else
      if len * size = 0 then (afill (fun i => some (i * size, size)) [] parts)
      else match zeroA P elem with
        | some zero => if zero.length = size then afill (fun i => some (i * size, size)) (rep zero len) parts else none
        | none => none
    | none => none
  | _ => none

theorem opV_buildSlice {t : TypeId} {len : Nat} {parts : Array (Nat × Operand)} (ho : o.op = .buildSlice t len parts) {l : List AV} (hl : bsA P t len (parts.toList.map fun x => (x.1, ρ x.2)) = some l) :
    OpV P o ρ h (.sl h.nx 0 len len false) (h.add (.cells l 0)) := by
  intro μ w r hd ρc hc
  have hpd : ∀ x ∈ parts.toList.map (fun x => (x.1, ρ x.2)), Dom μ.dom x.2 := by
    intro x hx
    obtain ⟨y, hy, rfl⟩ := List.mem_map.1 hx
    exact hd y.2 (by simp [ho, Op.operands]; exact ⟨y.1, by simpa using hy⟩)
  have hpc : (parts.map fun x => (x.1, ρc x.2)).toList = (parts.toList.map fun x => (x.1, ρ x.2)).map fun x => (x.1, conc μ x.2) := by
    simp only [Array.toList_map, List.map_map]
    refine List.map_congr_left fun y hy => ?_
    simp only [Function.comp]
    rw [hc y.2 (by simp [ho, Op.operands]; exact ⟨y.1, by simpa using hy⟩)]
  unfold bsA at hl
  split at hl
  · rename_i elem hu
    split at hl
    · rename_i size hs
      split at hl
      · cases hl
      · rename_i hbig
        split at hl
        · rename_i h0
          obtain ⟨h1, h2⟩ := afill_conc μ hl trivial hpd
          refine ⟨_, _, new_cells r elem h2 0 (by omega), by simp [Dom, Mu.new], .inl ?_⟩
          simp only [execOp, ho, Instr.buildSlice, Sem.run_bind, underlying, run_program, hu, Result.andThen_ok, Sem.run_pure, sizeOf_run hs]
          rw [if_neg hbig]
          simp only [Sem.run_bind, h0, if_true, Sem.run_pure, Result.andThen_ok]
          rw [hpc, show (Array.range 0).map (fun x => (#[] : Array Value)[x % (#[] : Array Value).size]!) = (concL μ []).toArray from Array.eq_empty_of_size_eq_zero (by simp), h1]
          simp [newRow, conc, Mu.new_blk, Mu.new_sh]
        · rename_i h0
          split at hl
          · rename_i zero hz
            split at hl
            · rename_i hzl
              obtain ⟨v, hv, hcells⟩ := zeroA_cells hz w
              obtain ⟨h1, h2⟩ := afill_conc μ hl (rep_dom ((hcells μ).2 _) _) hpd
              refine ⟨_, _, new_cells r elem h2 0 (by omega), by simp [Dom, Mu.new], .inl ?_⟩
              simp only [execOp, ho, Instr.buildSlice, Sem.run_bind, underlying, run_program, hu, Result.andThen_ok, Sem.run_pure, sizeOf_run hs]
              rw [if_neg hbig]
              simp only [Sem.run_bind, if_neg h0, hv, Sem.run_pure, Result.andThen_ok]
              rw [hpc, (hcells μ).1, rep_conc μ zero len _ (by rw [hzl]), h1]
              simp [newRow, conc, Mu.new_blk, Mu.new_sh]
            · cases hl
          · cases hl
    · cases hl
  · cases hl

/-! ### Loads and stores -/

def aggT (P : Program) (t : TypeId) : Option Bool :=
  match P.underlying t with
  | some (.struct _) => some true
  | some (.array _ _) => some true
  | some _ => some false
  | none => none

theorem aggT_run {P : Program} {t : TypeId} {b : Bool} (e : aggT P t = some b) (w : World) : (isAgg t).run P w = .ok b w := by
  unfold aggT at e
  unfold isAgg underlying
  simp only [Sem.run_bind, run_program, Result.andThen_ok]
  cases hu : P.underlying t with
  | none => rw [hu] at e; cases e
  | some d =>
    rw [hu] at e
    cases d <;> (obtain rfl := Option.some.inj e; rfl)

/-- What a load comes to. -/
noncomputable def loadA (P : Program) (h : H) (t : TypeId) (a : AV) : Option AV :=
  match a with
  | .p id off => match h.get id with
    | some (.cells cs _) => match aggT P t with
      | some true => match tsize P t with
        | some n => if off + n ≤ cs.length then some (.agg (sub cs off n)) else none
        | none => none
      | some false => cs[off]?
      | none => none
    | _ => none
  | _ => none

theorem Rel.loadA {μ : Mu} {w : World} (r : Rel μ h w) {t : TypeId} {a v : AV} (d : Dom μ.dom a) (e : loadA P h t a = some v) :
    ∃ ad, conc μ a = .pointer (some ad) ∧ (loadVar t ad).run P w = .ok (conc μ v) w ∧ Dom μ.dom v := by
  unfold Arm.loadA at e
  split at e
  · rename_i id off
    split at e
    · rename_i cs es hg
      simp only [Dom] at d
      refine ⟨⟨μ.blk id, μ.sh id + off, none⟩, by simp only [conc], ?_⟩
      split at e
      · rename_i ha
        split at e
        · rename_i n hn
          split at e
          · rename_i hlt
            obtain rfl := Option.some.inj e
            obtain ⟨h1, h2⟩ := r.loadCells (P := P) d hg hlt
            refine ⟨?_, by simp only [Dom]; exact h2⟩
            simp [loadVar, aggT_run ha, sizeOf_run hn, h1, conc]
          · cases e
        · cases e
      · rename_i ha
        obtain ⟨h1, _, h2⟩ := r.cell d hg e
        refine ⟨?_, h2⟩
        simp [loadVar, aggT_run ha, h1]
      · cases e
    · cases e
  · cases e

theorem opV_load {t : TypeId} {x : Operand} (ho : o.op = .load t x) {v : AV} (hv : loadA P h t (ρ x) = some v) : OpV P o ρ h v h :=
  opV_pure fun μ w r hd ρc hc => by
    have e := hc x (by simp [ho, Op.operands])
    obtain ⟨ad, h1, h2, h3⟩ := r.loadA (hd x (by simp [ho, Op.operands])) hv
    refine ⟨h3, ?_⟩
    rw [h1] at e
    simp [execOp, ho, Instr.loadAt, Instr.sureAddr, e, h2]

/-- What a store comes to. -/
noncomputable def storeA (P : Program) (h : H) (t : TypeId) (a v : AV) : Option H :=
  match a with
  | .p id off => match h.get id with
    | some (.cells cs es) => match tsize P t with
      | some n => if (acells v).length = n ∧ off + n ≤ cs.length ∧ (acells v).all AV.one = true then some (h.put id (some (.cells (lay cs off (acells v)) es))) else none
      | none => none
    | _ => none
  | _ => none

theorem Rel.storeA {μ : Mu} {w : World} (r : Rel μ h w) {t : TypeId} {a v : AV} (d : Dom μ.dom a) (dv : Dom μ.dom v) {h' : H} (e : storeA P h t a v = some h') :
    ∃ ad w', conc μ a = .pointer (some ad) ∧ (storeVar t ad (conc μ v)).run P w = .ok () w' ∧ Adv μ h w μ h' w' := by
  unfold Arm.storeA at e
  split at e
  · rename_i id off
    split at e
    · rename_i cs es hg
      split at e
      · rename_i n hn
        split at e
        · rename_i hc
          obtain rfl := Option.some.inj e
          simp only [Dom] at d
          obtain ⟨w', h1, h2⟩ := r.storeCells (P := P) d es (acells v) (off := off) (i := 0) hg (by omega) (acells_dom dv) hc.2.2
          refine ⟨⟨μ.blk id, μ.sh id + off, none⟩, w', by simp only [conc], ?_, h2⟩
          have hl : (concL μ (acells v)).length = n := by rw [concL_map]; simp [hc.1]
          simp [storeVar, sizeOf_run hn, acells_conc, hl, h1]
        · cases e
      · cases e
    · cases e
  · cases e

theorem opV_store {t : TypeId} {x y : Operand} (ho : o.op = .store t x y) {h' : H} (hv : storeA P h t (ρ x) (ρ y) = some h') : OpV P o ρ h (.tup []) h' := by
  intro μ w r hd ρc hc
  have e1 := hc x (by simp [ho, Op.operands])
  have e2 := hc y (by simp [ho, Op.operands])
  obtain ⟨ad, w', h1, h2, h3⟩ := r.storeA (hd x (by simp [ho, Op.operands])) (hd y (by simp [ho, Op.operands])) hv
  refine ⟨μ, w', h3, by simp [Dom, DomL], .inr ⟨?_, rfl⟩⟩
  rw [h1] at e1
  simp [execOp, ho, Instr.storeAt, Instr.sureAddr, e1, e2, h2]

/-! ### Checks, numbers -/

def nilOk : AV → Bool
  | .pn | .ifn | .fnil => false
  | .f (.method _) _ _ => false
  | _ => true

theorem opV_nilCheck {x : Operand} (ho : o.op = .nilCheck x) (hn : nilOk (ρ x) = true) : OpV P o ρ h (ρ x) h :=
  opV_pure fun μ w r hd ρc hc => by
    have e := hc x (by simp [ho, Op.operands])
    refine ⟨hd x (by simp [ho, Op.operands]), ?_⟩
    simp only [execOp, ho, e]
    cases hx : ρ x with
    | f fn a c =>
      rw [hx] at hn
      cases fn <;> simp_all [nilOk, conc, concFn]
    | _ => rw [hx] at hn; simp_all [nilOk, conc]

/-- Whole numbers. -/
def arithA (op : BinOp) (k : IntKind) (a b : Int) : Option Int :=
  match op with
  | .add => some (k.wrap (a + b))
  | .sub => some (k.wrap (a - b))
  | .mul => some (k.wrap (a * b))
  | .quo => if b = 0 then none else some (k.wrap (a.tdiv b))
  | .rem => if b = 0 then none else some (a.tmod b)
  | .and => some (k.wrap (BitVec.ofInt k.bits a &&& BitVec.ofInt k.bits b).toNat)
  | .or => some (k.wrap (BitVec.ofInt k.bits a ||| BitVec.ofInt k.bits b).toNat)
  | .xor => some (k.wrap (BitVec.ofInt k.bits a ^^^ BitVec.ofInt k.bits b).toNat)
  | .andNot => some (k.wrap (BitVec.ofInt k.bits a &&& ~~~ BitVec.ofInt k.bits b).toNat)
  | _ => none

def cmpA (op : BinOp) (a b : Int) : Option Bool :=
  match op with
  | .eql => some (a == b)
  | .neq => some (a != b)
  | .lss => some (decide (a < b))
  | .leq => some (decide (a ≤ b))
  | .gtr => some (decide (a > b))
  | .geq => some (decide (a ≥ b))
  | _ => none

def isShift : BinOp → Bool
  | .shl | .shr => true
  | _ => false

theorem eqGuard_int (op : BinOp) (t : TypeId) (x y : Operand) (k j : IntKind) (a b : Int) (w : World) : (eqGuard op t x y (.int k a) (.int j b)).run P w = .ok () w := by
  unfold eqGuard
  split <;> simp

theorem opV_arith {op : BinOp} {t t' : TypeId} {x y : Operand} (ho : o.op = .binOp op t x y t') {k : IntKind} {a b c : Int} (hx : ρ x = .i k a) (hy : ρ y = .i k b) (hr : arithA op k a b = some c) :
    OpV P o ρ h (.i k c) h :=
  opV_pure fun μ w r hd ρc hc => by
    have e1 := hc x (by simp [ho, Op.operands])
    have e2 := hc y (by simp [ho, Op.operands])
    rw [hx] at e1
    rw [hy] at e2
    refine ⟨by simp [Dom], ?_⟩
    simp only [execOp, ho, e1, e2, conc, Sem.run_bind, eqGuard_int, Result.andThen_ok]
    cases op <;> simp only [arithA] at hr <;> first
      | cases hr; done
      | (split at hr
         · cases hr
         · rename_i h0
           obtain rfl := Option.some.inj hr
           simp [binOp, Op.intDiv, h0])
      | (obtain rfl := Option.some.inj hr
         simp [binOp, Op.intArith, Op.intBits])

theorem opV_cmp {op : BinOp} {t t' : TypeId} {x y : Operand} (ho : o.op = .binOp op t x y t') {k : IntKind} {a b : Int} {c : Bool} (hx : ρ x = .i k a) (hy : ρ y = .i k b) (hr : cmpA op a b = some c) :
    OpV P o ρ h (.b c) h :=
  opV_pure fun μ w r hd ρc hc => by
    have e1 := hc x (by simp [ho, Op.operands])
    have e2 := hc y (by simp [ho, Op.operands])
    rw [hx] at e1
    rw [hy] at e2
    refine ⟨by simp [Dom], ?_⟩
    simp only [execOp, ho, e1, e2, conc, Sem.run_bind, eqGuard_int, Result.andThen_ok]
    cases op <;> simp only [cmpA] at hr <;> first
      | cases hr; done
      | (obtain rfl := Option.some.inj hr
         simp [binOp, Op.intCmp])

def shiftA (op : BinOp) (k : IntKind) (a b : Int) : Option Int :=
  if b < 0 then none else
  match op with
  | .shl => some (k.wrap (a * 2 ^ (min b.toNat k.bits)))
  | .shr => some (a.fdiv (2 ^ (min b.toNat k.bits)))
  | _ => none

theorem opV_shift {op : BinOp} {t t' : TypeId} {x y : Operand} (ho : o.op = .binOp op t x y t') {k j : IntKind} {a b c : Int} (hx : ρ x = .i k a) (hy : ρ y = .i j b) (hr : shiftA op k a b = some c) :
    OpV P o ρ h (.i k c) h :=
  opV_pure fun μ w r hd ρc hc => by
    have e1 := hc x (by simp [ho, Op.operands])
    have e2 := hc y (by simp [ho, Op.operands])
    rw [hx] at e1
    rw [hy] at e2
    refine ⟨by simp [Dom], ?_⟩
    simp only [execOp, ho, e1, e2, conc, Sem.run_bind, eqGuard_int, Result.andThen_ok]
    unfold shiftA at hr
    split at hr
    · cases hr
    · rename_i h0
      cases op <;> simp only at hr <;> first
        | cases hr; done
        | (obtain rfl := Option.some.inj hr
           simp [binOp, Op.shift, h0])

def unaryA (op : UnOp) (v : AV) : Option AV :=
  match op, v with
  | .neg, .i k n => some (.i k (k.wrap (0 - n)))
  | .xor, .i k n => some (.i k (k.wrap (BitVec.ofInt k.bits (if k.signed then -1 else k.max) ^^^ BitVec.ofInt k.bits n).toNat))
  | .not, .b x => some (.b (!x))
  | _, _ => none

theorem opV_unary {op : UnOp} {t : TypeId} {x : Operand} (ho : o.op = .unOp op t x) {v : AV} (hr : unaryA op (ρ x) = some v) : OpV P o ρ h v h :=
  opV_pure fun μ w r hd ρc hc => by
    have e1 := hc x (by simp [ho, Op.operands])
    unfold unaryA at hr
    split at hr
    · rename_i k n hx
      obtain rfl := Option.some.inj hr
      rw [hx] at e1
      exact ⟨by simp [Dom], by simp [execOp, ho, e1, conc, Op.unary, Op.intArith]⟩
    · rename_i k n hx
      obtain rfl := Option.some.inj hr
      rw [hx] at e1
      exact ⟨by simp [Dom], by simp [execOp, ho, e1, conc, Op.unary, Op.intBits]⟩
    · rename_i b hx
      obtain rfl := Option.some.inj hr
      rw [hx] at e1
      exact ⟨by simp [Dom], by simp [execOp, ho, e1, conc, Op.unary]⟩
    · cases hr
end Go.Arm

/- The abstract machine: slices, addresses, lengths, append, copy, make. -/
namespace Go.Arm
variable {P : Program} {o : Oper} {ρ : Operand → AV} {h : H}

/-! ### Addresses of fields and elements -/

def fieldAddrA (P : Program) (s : TypeId) (x : AV) (field : Nat) : Option AV :=
  match x, P.underlying s with
  | .p id off, some (.struct fields) => match fields[field]? with
    | some f => match tsize P f.type with
      | some n => if n = 0 then none else some (.p id (off + f.offset))
      | none => none
    | none => none
  | _, _ => none

theorem opV_fieldAddr {s : TypeId} {x : Operand} {n : Nat} (ho : o.op = .fieldAddr s x n) {v : AV} (hv : fieldAddrA P s (ρ x) n = some v) : OpV P o ρ h v h :=
  opV_pure fun μ w r hd ρc hc => by
    have e := hc x (by simp [ho, Op.operands])
    have d := hd x (by simp [ho, Op.operands])
    unfold fieldAddrA at hv
    split at hv
    · rename_i id off fields hx hu
      rw [hx] at e d
      split at hv
      · rename_i f hf
        split at hv
        · rename_i m hm
          split at hv
          · cases hv
          · rename_i h0
            obtain rfl := Option.some.inj hv
            refine ⟨d, ?_⟩
            simp [execOp, ho, Instr.fieldAt, underlying, hu, hf, Instr.sureAddr, e, conc, fieldPlace, sizeOf_run hm, h0, add_none, Nat.add_assoc]
        · cases hv
      · cases hv
    · cases hv

def indexAddrA (P : Program) (t : TypeId) (x i : AV) : Option AV :=
  match i with
  | .i _ n =>
    match x, P.underlying t with
    | .sl id off len _ _, some (.slice elem) => match tsize P elem with
      | some m => if 0 ≤ n ∧ n < len then some (.p id (off + n.toNat * m)) else none
      | none => none
    | .p id off, some (.array len elem) => match tsize P elem with
      | some m => if 0 ≤ n ∧ n < len then some (.p id (off + n.toNat * m)) else none
      | none => none
    | _, _ => none
  | _ => none

theorem opV_indexAddr {t : TypeId} {x i : Operand} (ho : o.op = .indexAddr t x i) {v : AV} (hv : indexAddrA P t (ρ x) (ρ i) = some v) : OpV P o ρ h v h :=
  opV_pure fun μ w r hd ρc hc => by
    have e := hc x (by simp [ho, Op.operands])
    have e2 := hc i (by simp [ho, Op.operands])
    have d := hd x (by simp [ho, Op.operands])
    unfold indexAddrA at hv
    split at hv
    · rename_i k n hi
      rw [hi] at e2
      split at hv
      · rename_i id off len cap g elem hx hu
        rw [hx] at e d
        split at hv
        · rename_i m hm
          split at hv
          · rename_i hb
            obtain rfl := Option.some.inj hv
            refine ⟨d, ?_⟩
            simp [execOp, ho, Instr.indexAt, underlying, hu, asIntOf, e, e2, conc, sizeOf_run hm, hb.1, hb.2, add_none, Nat.add_assoc]
          · cases hv
        · cases hv
      · rename_i id off len elem hx hu
        rw [hx] at e d
        split at hv
        · rename_i m hm
          split at hv
          · rename_i hb
            obtain rfl := Option.some.inj hv
            refine ⟨d, ?_⟩
            simp [execOp, ho, Instr.indexAt, Instr.sureAddr, underlying, hu, asIntOf, e, e2, conc, sizeOf_run hm, hb.1, hb.2, add_none, Nat.add_assoc]
          · cases hv
        · cases hv
      · cases hv
    · cases hv

/-- A part of an aggregate. -/
noncomputable def partA (P : Program) (t : TypeId) (cs : List AV) (off : Nat) : Option AV :=
  match aggT P t with
  | some true => match tsize P t with
    | some n => some (.agg (sub cs off n))
    | none => none
  | some false => cs[off]?
  | none => none

theorem DomL_sub {D : Nat → Prop} {cs : List AV} (d : DomL D cs) (off n : Nat) : DomL D (sub cs off n) :=
  DomL_all.2 fun v hv => DomL_all.1 d v (List.mem_of_mem_drop (List.mem_of_mem_take hv))

theorem sub_conc (μ : Mu) (cs : List AV) (off n : Nat) : (concL μ cs).toArray.extract off (off + n) = (concL μ (sub cs off n)).toArray := by
  rw [concL_map, concL_map, sub]
  rw [List.extract_toArray]
  simp [List.map_take, List.map_drop]

theorem partA_run {t : TypeId} {cs : List AV} {off : Nat} {v : AV} (e : partA P t cs off = some v) (μ : Mu) (w : World) :
    (part t (concL μ cs).toArray off).run P w = .ok (conc μ v) w ∧ ∀ D, DomL D cs → Dom D v := by
  unfold partA at e
  split at e
  · rename_i ha
    split at e
    · rename_i n hn
      obtain rfl := Option.some.inj e
      refine ⟨?_, fun D d => by simp only [Dom]; exact DomL_sub d _ _⟩
      simp only [part, Sem.run_bind, aggT_run ha, Result.andThen_ok, if_true, sizeOf_run hn, Sem.run_pure]
      rw [sub_conc]; simp [conc]
    · cases e
  · rename_i ha
    refine ⟨?_, fun D d => DomL_all.1 d v (List.mem_of_getElem? e)⟩
    simp only [part, Sem.run_bind, aggT_run ha, Result.andThen_ok]
    have : (concL μ cs).toArray[off]? = some (conc μ v) := by rw [concL_map]; simp [e]
    simp [this]
  · cases e

noncomputable def fieldA (P : Program) (t : TypeId) (x : AV) (n : Nat) : Option AV :=
  match x, P.underlying t with
  | .agg cs, some (.struct fields) => match fields[n]? with
    | some f => partA P f.type cs f.offset
    | none => none
  | _, _ => none

theorem opV_field {t : TypeId} {x : Operand} {n : Nat} (ho : o.op = .field t x n) {v : AV} (hv : fieldA P t (ρ x) n = some v) : OpV P o ρ h v h :=
  opV_pure fun μ w r hd ρc hc => by
    have e := hc x (by simp [ho, Op.operands])
    have d := hd x (by simp [ho, Op.operands])
    unfold fieldA at hv
    split at hv
    · rename_i cs fields hx hu
      rw [hx] at e d
      split at hv
      · rename_i f hf
        obtain ⟨h1, h2⟩ := partA_run hv μ w
        refine ⟨h2 _ (by simpa only [Dom] using d), ?_⟩
        simp [execOp, ho, Instr.field, underlying, hu, hf, e, conc, asAgg, h1]
      · cases hv
    · cases hv

noncomputable def indexA (P : Program) (t : TypeId) (x i : AV) : Option AV :=
  match i with
  | .i _ n =>
    match x, P.underlying t with
    | .agg cs, some (.array len elem) => match tsize P elem with
      | some m => if 0 ≤ n ∧ n < len then partA P elem cs (n.toNat * m) else none
      | none => none
    | .s l, some .string => if 0 ≤ n then match l[n.toNat]? with
      | some c => if c < 256 then some (.i .u8 c) else none
      | none => none
      else none
    | _, _ => none
  | _ => none

theorem bytesOf_size (l : List Nat) : (bytesOf l).size = l.length := by simp [bytesOf, ByteArray.size]

theorem bytesOf_get (l : List Nat) (i : Nat) : (bytesOf l)[i]? = l[i]?.map Nat.toUInt8 := by
  by_cases hi : i < l.length
  · rw [getElem?_pos _ _ (by rw [bytesOf_size]; exact hi), List.getElem?_eq_getElem hi]
    simp only [bytesOf, ByteArray.getElem_eq_getElem_data, Option.map_some]
    simp
  · rw [getElem?_neg _ _ (by rw [bytesOf_size]; exact hi), List.getElem?_eq_none (by omega)]
    rfl

theorem opV_index {t : TypeId} {x i : Operand} (ho : o.op = .index t x i) {v : AV} (hv : indexA P t (ρ x) (ρ i) = some v) : OpV P o ρ h v h :=
  opV_pure fun μ w r hd ρc hc => by
    have e := hc x (by simp [ho, Op.operands])
    have e2 := hc i (by simp [ho, Op.operands])
    have d := hd x (by simp [ho, Op.operands])
    unfold indexA at hv
    split at hv
    · rename_i k n hi
      rw [hi] at e2
      split at hv
      · rename_i cs len elem hx hu
        rw [hx] at e d
        split at hv
        · rename_i m hm
          split at hv
          · rename_i hb
            obtain ⟨h1, h2⟩ := partA_run hv μ w
            refine ⟨h2 _ (by simpa only [Dom] using d), ?_⟩
            simp [execOp, ho, Instr.index, underlying, hu, asIntOf, e, e2, conc, sizeOf_run hm, hb.1, hb.2, h1]
          · cases hv
        · cases hv
      · rename_i l hx hu
        rw [hx] at e
        split at hv
        · rename_i h0
          split at hv
          · rename_i c hl
            split at hv
            · rename_i hc256
              obtain rfl := Option.some.inj hv
              refine ⟨by simp [Dom], ?_⟩
              have hb : (bytesOf l)[n.toNat]? = some c.toUInt8 := by rw [bytesOf_get, hl]; rfl
              have hcc : (c.toUInt8.toNat : Int) = c := by
                have : c.toUInt8.toNat = c % 256 := by simp
                rw [this, Nat.mod_eq_of_lt hc256]
              simp only [execOp, ho, Instr.index, underlying, Sem.run_bind, run_program, hu, asIntOf, e, e2, conc, Sem.run_pure, Result.andThen_ok, if_pos h0, hb]
              simp; omega
            · cases hv
          · cases hv
        · cases hv
      · cases hv
    · cases hv

/-! ### Slices of slices -/

/-- Memory of which one number more is given away, to nothing. -/
def H.skip (h : H) : H := ⟨h.t, h.nx + 1⟩

theorem H.get_skip (h : H) (id : Nat) : h.skip.get id = h.get id := rfl

theorem adv_skip {μ : Mu} {w : World} (r : Rel μ h w) (fresh : h.get h.nx = none) (b s k : Nat) (hb : b < w.heap.size) : Adv μ h w (μ.new h.nx b s k) h.skip w := by
  have hle := Mu.le_new r.not_dom b s k
  refine ⟨⟨?_, ?_, ?_⟩, hle, by simp [H.skip], ?_, Nat.le_refl _, rfl, rfl, rfl, fun _ _ _ => rfl, ?_⟩
  · rintro id (d | rfl)
    · have := r.lt id d
      rw [hle.blk id d]
      simp only [H.skip]
      omega
    · rw [Mu.new_blk]
      simp only [H.skip]
      omega
  · rintro id o' (d | rfl) hg
    · obtain ⟨co', hc, hr⟩ := r.obj id o' d hg
      exact ⟨co', by rw [hle.blk id d]; exact hc, hr.le hle d⟩
    · rw [H.get_skip, fresh] at hg; cases hg
  · rintro i j (di | rfl) (dj | rfl) li lj e
    · rw [hle.blk i di, hle.blk j dj] at e
      exact r.inj i j di dj li lj e
    · exact absurd fresh lj
    · exact absurd fresh li
    · rfl
  · intro id
    simp only [Mu.new, H.skip]
    constructor
    · rintro (d | rfl)
      · exact .inl d
      · exact .inr ⟨Nat.le_refl _, by omega⟩
    · rintro (d | ⟨h1, h2⟩)
      · exact .inl d
      · exact .inr (by omega)
  · rintro id (d | rfl) l
    · exact .inl ⟨id, d, l, (hle.blk id d).symm⟩
    · exact absurd fresh l

def intOf? : AV → Option Int
  | .i _ n => some n
  | _ => none

/-- A bound: at most so much. -/
def boundA (x : Option AV) (dflt : Nat) (most : Nat) : Option Nat :=
  match x with
  | none => if dflt ≤ most then some dflt else none
  | some v => match intOf? v with
    | some n => if 0 ≤ n ∧ n ≤ most then some n.toNat else none
    | none => none

theorem boundA_run {x : Option AV} {dflt most n : Nat} (e : boundA x dflt most = some n) (μ : Mu) (w : World) (most' : Nat) (hm : most ≤ most') (code : BoundsCode) (d : Sem Nat) (hd : d.run P w = .ok dflt w) :
    (match x.map (conc μ) with | some v => Instr.sliceBound v most' code | none => d).run P w = .ok n w := by
  unfold boundA at e
  cases x with
  | none =>
    simp only at e
    split at e
    · obtain rfl := Option.some.inj e; exact hd
    · cases e
  | some v =>
    simp only at e
    split at e
    · rename_i k hk
      split at e
      · rename_i hb
        obtain rfl := Option.some.inj e
        cases v <;> simp only [intOf?] at hk <;> first | cases hk; done | skip
        obtain rfl := Option.some.inj hk
        simp only [Option.map_some, conc, Instr.sliceBound, asIntOf, Sem.run_bind, Sem.run_pure, Result.andThen_ok]
        rw [if_pos ⟨hb.1, by omega⟩]
        rfl
      · cases e
    · cases e

/-- What a slice expression comes to. -/
noncomputable def sliceA (P : Program) (h : H) (t : TypeId) (x : AV) (lo hi mx : Option AV) : Option (AV × H) :=
  match P.underlying t, x with
  | some .string, .s l =>
    match mx with
    | some _ => none
    | none => match boundA hi l.length l.length with
      | some b => match boundA lo 0 b with
        | some a => some (.s ((l.drop a).take (b - a)), h)
        | none => none
      | none => none
  | some (.slice elem), .sl id off len cap g =>
    match tsize P elem with
    | none => none
    | some size =>
      match mx with
      | none => match boundA hi len cap with
        | some b => match boundA lo 0 b with
          | some a =>
            if a = 0 then some (.sl id off b cap g, h) else if a = cap then
              (if g then (match h.get h.nx with
                | none => some (.sl h.nx 0 (b - a) 0 true, h.skip)
                | some _ => none)
              else some (.sl id off (b - a) 0 false, h))
            else some (.sl id (off + a * size) (b - a) (cap - a) g, h)
          | none => none
        | none => none
      | some m => match boundA (some m) 0 cap with
        | some c => match hi with
          | none => none
          | some hi => match boundA (some hi) 0 c with
            | some b => match boundA lo 0 b with
              | some a => some (.sl id (if c = a then off else off + a * size) (b - a) (c - a) false, h)
              | none => none
            | none => none
        | none => none
  | some (.slice elem), .sn =>
    match tsize P elem with
    | none => none
    | some _ => match mx with
      | none => match boundA hi 0 0 with
        | some b => match boundA lo 0 b with
          | some _ => some (.sn, h)
          | none => none
        | none => none
      | some _ => none
  | some (.array n elem), .p id off =>
    match tsize P elem with
    | none => none
    | some size => match mx with
      | some _ => none
      | none => match boundA hi n n with
        | some b => match boundA lo 0 b with
          | some a => some (.sl id (if n = a then off else off + a * size) (b - a) (n - a) false, h)
          | none => none
        | none => none
  | _, _ => none

theorem sliceBounds_run {isSlice : Bool} {len cap cap' a b : Nat} {lo hi : Option AV} (μ : Mu) (w : World) (hc : cap ≤ cap')
    (h1 : boundA hi len cap = some b) (h2 : boundA lo 0 b = some a) :
    (Instr.sliceBounds isSlice len cap' (lo.map (conc μ)) (hi.map (conc μ)) none).run P w = .ok (a, b, cap') w := by
  have e1 := boundA_run (P := P) h1 μ w cap' hc (if isSlice then .sliceAcap else .sliceAlen) (pure len) rfl
  have e2 := boundA_run (P := P) h2 μ w b (Nat.le_refl _) .sliceB (pure 0) rfl
  have e3 : (if (none : Option Value).isSome = true then BoundsCode.slice3C else .sliceB) = .sliceB := rfl
  unfold Instr.sliceBounds
  simp only [Sem.run_bind, Sem.run_pure, Result.andThen_ok]
  cases hi with
  | none =>
    simp only [Option.map_none] at e1 ⊢
    rw [Sem.run_bind, e1, Result.andThen_ok]
    cases lo with
    | none => simp only [Option.map_none] at e2 ⊢; rw [Sem.run_bind, e2]; rfl
    | some v => simp only [Option.map_some] at e2 ⊢; rw [e3, Sem.run_bind, e2]; rfl
  | some u =>
    simp only [Option.map_some] at e1 ⊢
    rw [Sem.run_bind, e1, Result.andThen_ok]
    cases lo with
    | none => simp only [Option.map_none] at e2 ⊢; rw [Sem.run_bind, e2]; rfl
    | some v => simp only [Option.map_some] at e2 ⊢; rw [e3, Sem.run_bind, e2]; rfl

theorem sliceBounds3_run {cap cap' a b c : Nat} {lo : Option AV} {hi mx : AV} (len : Nat) (μ : Mu) (w : World) (hc : cap ≤ cap')
    (h0 : boundA (some mx) 0 cap = some c) (h1 : boundA (some hi) 0 c = some b) (h2 : boundA lo 0 b = some a) :
    (Instr.sliceBounds true len cap' (lo.map (conc μ)) (some (conc μ hi)) (some (conc μ mx))).run P w = .ok (a, b, c) w := by
  have e0 := boundA_run (P := P) h0 μ w cap' hc .slice3Acap (pure 0) rfl
  have e1 := boundA_run (P := P) h1 μ w c (Nat.le_refl _) .slice3B (pure 0) rfl
  have e2 := boundA_run (P := P) h2 μ w b (Nat.le_refl _) .slice3C (pure 0) rfl
  simp only [Option.map_some] at e0 e1
  unfold Instr.sliceBounds
  simp only [Sem.run_bind, if_true, e0, Result.andThen_ok, e1]
  cases lo with
  | none => simp only [Option.map_none] at e2 ⊢; rw [Sem.run_bind, e2]; rfl
  | some v => simp only [Option.map_some] at e2 ⊢; simp only [Option.isSome_some, if_true]; rw [Sem.run_bind, e2]; rfl

theorem boundA_le {x : Option AV} {d m n : Nat} (e : boundA x d m = some n) : n ≤ m := by
  unfold boundA at e
  split at e
  · split at e
    · obtain rfl := Option.some.inj e; assumption
    · cases e
  · split at e
    · split at e
      · rename_i hb
        obtain rfl := Option.some.inj e
        omega
      · cases e
    · cases e

theorem bytesOf_extract (l : List Nat) (a b : Nat) : (bytesOf l).extract a b = bytesOf ((l.drop a).take (b - a)) := by
  apply ByteArray.ext
  simp [bytesOf, ByteArray.data_extract, List.map_take, List.map_drop]

theorem add_mul (b o n : Nat) (s : Nat) : (⟨b, s + o, none⟩ : Addr).add n = ⟨b, s + (o + n), none⟩ := by rw [add_none, Nat.add_assoc]

theorem opV_slice {t : TypeId} {x : Operand} {lo hi mx : Option Operand} (ho : o.op = .slice t x lo hi mx) {v : AV} {h' : H}
    (hv : sliceA P h t (ρ x) (lo.map ρ) (hi.map ρ) (mx.map ρ) = some (v, h')) : OpV P o ρ h v h' := by
  intro μ w r hd ρc hc
  have e := hc x (by simp [ho, Op.operands])
  have d := hd x (by simp [ho, Op.operands])
  have elo : lo.map ρc = (lo.map ρ).map (conc μ) := by
    cases lo with
    | none => rfl
    | some y => simp [hc y (by simp [ho, Op.operands])]
  have ehi : hi.map ρc = (hi.map ρ).map (conc μ) := by
    cases hi with
    | none => rfl
    | some y => simp [hc y (by simp [ho, Op.operands])]
  have emx : mx.map ρc = (mx.map ρ).map (conc μ) := by
    cases mx with
    | none => rfl
    | some y => simp [hc y (by simp [ho, Op.operands])]
  have hrun : ∀ v, (Instr.sliceAt t (ρc x) (lo.map ρc) (hi.map ρc) (mx.map ρc)).run P w = .ok v w → (execOp ρc o).run P w = .ok (.value v) w := by
    intro v hv
    simp [execOp, ho, hv]
  rw [e, elo, ehi, emx] at hrun
  clear elo ehi emx
  generalize lo.map ρ = lo at *
  generalize hi.map ρ = hi at *
  generalize mx.map ρ = mx at *
  unfold sliceA at hv
  split at hv
  · rename_i l hu hx
    rw [hx] at hrun d
    split at hv
    · cases hv
    · split at hv
      · rename_i b h1
        split at hv
        · rename_i a h2
          obtain ⟨rfl, rfl⟩ := Prod.mk.inj (Option.some.inj hv)
          refine ⟨μ, w, Adv.refl r, by simp only [Dom] at d ⊢; exact fun c hc => d c (List.mem_of_mem_drop (List.mem_of_mem_take hc)), .inl (hrun _ ?_)⟩
          have hb := sliceBounds_run (P := P) (isSlice := false) (len := (bytesOf l).size) (cap := (bytesOf l).size) (cap' := (bytesOf l).size) μ w (Nat.le_refl _) (by rw [bytesOf_size]; exact h1) h2
          simp only [Instr.sliceAt, Instr.slice, underlying, Sem.run_bind, run_program, hu, Result.andThen_ok, Sem.run_pure, conc, Option.map_none, Option.isSome_none, Bool.false_eq_true, if_false, hb]
          rw [bytesOf_extract]
        · cases hv
      · cases hv
  · rename_i elem id off len cap g hu hx
    rw [hx] at hrun d
    split at hv
    · cases hv
    · rename_i size hs
      have hcap : cap ≤ (if g = true then cap + μ.slack id else cap) := by split <;> omega
      split at hv
      · split at hv
        · rename_i b h1
          split at hv
          · rename_i a h2
            have hb := sliceBounds_run (P := P) (isSlice := true) μ w hcap h1 h2
            have hrun2 := hrun (.slice (if (if g = true then cap + μ.slack id else cap) = a then some ⟨μ.blk id, μ.sh id + off, none⟩ else some ⟨μ.blk id, μ.sh id + (off + a * size), none⟩) (b - a) ((if g = true then cap + μ.slack id else cap) - a)) (by
              simp only [Instr.sliceAt, Instr.slice, underlying, Sem.run_bind, run_program, hu, Result.andThen_ok, Sem.run_pure, conc, Option.map_none, hb, sizeOf_run hs, Option.map_some, add_mul])
            have hal : a ≤ cap := Nat.le_trans (boundA_le h2) (boundA_le h1)
            split at hv
            · rename_i ha0
              obtain ⟨rfl, rfl⟩ := Prod.mk.inj (Option.some.inj hv)
              refine ⟨μ, w, Adv.refl r, d, .inl ?_⟩
              rw [hrun2]
              subst ha0
              simp [conc]
            split at hv
            · rename_i hac
              split at hv
              · rename_i hg
                split at hv
                · rename_i hfr
                  obtain ⟨rfl, rfl⟩ := Prod.mk.inj (Option.some.inj hv)
                  rw [if_pos hg] at hrun2
                  simp only [Dom] at d
                  refine ⟨μ.new h.nx (μ.blk id) (if cap + μ.slack id = a then μ.sh id + off else μ.sh id + (off + a * size)) (μ.slack id), w, adv_skip r hfr _ _ _ (r.lt id d).2, by simp [Dom, Mu.new], .inl ?_⟩
                  rw [hrun2]
                  simp only [conc, Mu.new_blk, Mu.new_sh, Mu.new_slack, if_true]
                  have : cap + μ.slack id - a = 0 + μ.slack id := by omega
                  rw [this]
                  split <;> simp
                · cases hv
              · rename_i hg
                obtain ⟨rfl, rfl⟩ := Prod.mk.inj (Option.some.inj hv)
                refine ⟨μ, w, Adv.refl r, d, .inl ?_⟩
                rw [hrun2, if_neg hg, if_pos hac.symm]
                simp [conc, hac]
            · rename_i hac
              obtain ⟨rfl, rfl⟩ := Prod.mk.inj (Option.some.inj hv)
              refine ⟨μ, w, Adv.refl r, d, .inl ?_⟩
              rw [hrun2]
              have hne : ¬ (if g = true then cap + μ.slack id else cap) = a := by split <;> omega
              rw [if_neg hne]
              simp only [conc]
              cases g
              · simp
              · simp only [if_true]
                have : cap + μ.slack id - a = cap - a + μ.slack id := by omega
                rw [this]
          · cases hv
        · cases hv
      · rename_i m
        split at hv
        · rename_i c h0
          split at hv
          · cases hv
          · rename_i hi'
            split at hv
            · rename_i b h1
              split at hv
              · rename_i a h2
                obtain ⟨rfl, rfl⟩ := Prod.mk.inj (Option.some.inj hv)
                have hb := sliceBounds3_run (P := P) len μ w hcap h0 h1 h2
                refine ⟨μ, w, Adv.refl r, d, .inl (hrun _ ?_)⟩
                simp only [Instr.sliceAt, Instr.slice, underlying, Sem.run_bind, run_program, hu, Result.andThen_ok, Sem.run_pure, conc, Option.map_some, hb, sizeOf_run hs, add_mul]
                by_cases hca : c = a
                · simp [hca]
                · simp [hca]
              · cases hv
            · cases hv
        · cases hv
  · rename_i elem hu hx
    rw [hx] at hrun
    split at hv
    · cases hv
    · rename_i size hs
      split at hv
      · split at hv
        · rename_i b h1
          split at hv
          · rename_i a h2
            obtain ⟨rfl, rfl⟩ := Prod.mk.inj (Option.some.inj hv)
            have hb := sliceBounds_run (P := P) (isSlice := true) μ w (Nat.le_refl 0) h1 h2
            have l1 := boundA_le h1
            have l2 := boundA_le h2
            obtain rfl : b = 0 := by omega
            obtain rfl : a = 0 := by omega
            refine ⟨μ, w, Adv.refl r, by simp [Dom], .inl (hrun _ ?_)⟩
            simp only [Instr.sliceAt, Instr.slice, underlying, Sem.run_bind, run_program, hu, Result.andThen_ok, Sem.run_pure, conc, Option.map_none, hb, sizeOf_run hs]
            simp
          · cases hv
        · cases hv
      · cases hv
  · rename_i n elem id off hu hx
    rw [hx] at hrun d
    split at hv
    · cases hv
    · rename_i size hs
      split at hv
      · cases hv
      · split at hv
        · rename_i b h1
          split at hv
          · rename_i a h2
            obtain ⟨rfl, rfl⟩ := Prod.mk.inj (Option.some.inj hv)
            have hb := sliceBounds_run (P := P) (isSlice := false) μ w (Nat.le_refl n) h1 h2
            refine ⟨μ, w, Adv.refl r, d, .inl (hrun _ ?_)⟩
            simp only [Instr.sliceAt, Instr.sureAddr, underlying, Sem.run_bind, run_program, hu, Result.andThen_ok, Sem.run_pure, conc, Option.map_none, hb, sizeOf_run hs, add_mul]
            by_cases hca : n = a
            · simp [hca]
            · simp [hca]
          · cases hv
        · cases hv
  · cases hv

end Go.Arm

/- The abstract machine: append, copy, make, len, and what else a builtin does. -/
namespace Go.Arm
variable {P : Program} {o : Oper} {ρ : Operand → AV} {h : H}

/-- A builtin's operation. -/
def OpB (P : Program) (b : Builtin) (argTypes : Array TypeId) (args : List AV) (h : H) (v : AV) (h' : H) : Prop :=
  ∀ (μ : Mu) (w : World) (ty : TypeId) (consts : Array Bool), Rel μ h w → DomL μ.dom args →
    ∃ μ' w', Adv μ h w μ' h' w' ∧ Dom μ'.dom v ∧ (builtin b argTypes ty consts (concL μ args).toArray).run P w = .ok (.value (conc μ' v)) w'

theorem opV_builtin {b : Builtin} {args : Array Operand} {argTypes : Array TypeId} (ho : o.op = .call { callee := .builtin b, args, argTypes }) {v : AV} {h' : H}
    (hb : OpB P b argTypes (args.toList.map ρ) h v h') : OpV P o ρ h v h' := by
  intro μ w r hd ρc hc
  have hargs : args.map ρc = (concL μ (args.toList.map ρ)).toArray := by
    rw [concL_map, List.map_map]
    apply Array.ext'
    simp only [Array.toList_map]
    refine List.map_congr_left fun x hx => ?_
    exact hc x (by simp [ho, Op.operands, Call.operands]; simpa using hx)
  have hdom : DomL μ.dom (args.toList.map ρ) := DomL_all.2 fun v hv => by
    obtain ⟨x, hx, rfl⟩ := List.mem_map.1 hv
    exact hd x (by simp [ho, Op.operands, Call.operands]; simpa using hx)
  obtain ⟨μ', w', h1, h2, h3⟩ := hb μ w o.type (args.map fun | .const _ => true | _ => false) r hdom
  refine ⟨μ', w', h1, h2, .inl ?_⟩
  simp only [execOp, ho, resolve, Sem.run_bind, Sem.run_pure, Result.andThen_ok, invoke, hargs]
  exact h3

/-! ### Lengths -/

noncomputable def lenA (P : Program) (h : H) (t : TypeId) (x : AV) : Option Nat :=
  match P.underlying t, x with
  | some .string, .s l => some l.length
  | some (.array n _), _ => some n
  | some (.slice _), .sl _ _ len _ _ => some len
  | some (.slice _), .sn => some 0
  | some (.map _ _), .mn => some 0
  | some (.map _ _), .m id => match h.get id with
    | some (.map es _) => some es.length
    | _ => none
  | _, _ => none

theorem Rel.map {μ : Mu} {w : World} (r : Rel μ h w) {id : Nat} (d : μ.dom id) {es : List AEnt} {clock : Nat} (hg : h.get id = some (.map es clock)) :
    w.heap[μ.blk id]? = some (.map (es.map (concE μ)).toArray clock) ∧ ∀ e ∈ es, Dom μ.dom e.key ∧ Dom μ.dom e.val := by
  obtain ⟨co, h1, h2⟩ := r.obj id _ d hg
  obtain ⟨rfl, h3⟩ := h2
  exact ⟨h1, h3⟩

theorem run_getObj {P : Program} {w : World} {b : Nat} {o : Obj} (e : w.heap[b]? = some o) (hn : ∀ c t f, o ≠ .cells c t f) : (getObj b).run P w = .ok o w := by
  cases o <;> first | exact absurd rfl (hn _ _ _) | simp [getObj, Sem.run, e]

theorem opB_len {argTypes : Array TypeId} {t : TypeId} (ht : argTypes[0]? = some t) {x : AV} {n : Nat} (hn : lenA P h t x = some n) (rest : List AV) :
    OpB P .len argTypes (x :: rest) h (.i .i64 n) h := by
  intro μ w ty consts r hd
  refine ⟨μ, w, Adv.refl r, by simp [Dom], ?_⟩
  have h0 : (concL μ (x :: rest)).toArray[0]? = some (conc μ x) := by simp [concL]
  have hdx := hd.1
  suffices (Builtin.len_ argTypes ty (concL μ (x :: rest)).toArray).run P w = .ok (.int .i64 n) w by
    simp [builtin, this, conc]
  unfold lenA at hn
  split at hn
  · rename_i l hu
    obtain rfl := Option.some.inj hn
    simp only [Builtin.len_, ht, h0, conc, underlying, Sem.run_bind, run_program, hu, Sem.run_pure, Result.andThen_ok, goInt, bytesOf_size]
  · rename_i m e hu
    obtain rfl := Option.some.inj hn
    simp only [Builtin.len_, ht, h0, conc, underlying, Sem.run_bind, run_program, hu, Sem.run_pure, Result.andThen_ok, goInt]
  · rename_i e id off len cap g hu
    obtain rfl := Option.some.inj hn
    simp only [Builtin.len_, ht, h0, conc, underlying, Sem.run_bind, run_program, hu, Sem.run_pure, Result.andThen_ok, goInt]
  · rename_i e hu
    obtain rfl := Option.some.inj hn
    simp only [Builtin.len_, ht, h0, conc, underlying, Sem.run_bind, run_program, hu, Sem.run_pure, Result.andThen_ok, goInt]
  · rename_i a b hu
    obtain rfl := Option.some.inj hn
    simp only [Builtin.len_, ht, h0, conc, underlying, Sem.run_bind, run_program, hu, Sem.run_pure, Result.andThen_ok, goInt]
    rfl
  · rename_i a b id hu
    split at hn
    · rename_i es clock hg
      obtain rfl := Option.some.inj hn
      have hm := (r.map (by simpa only [Dom] using hdx) hg).1
      simp only [Builtin.len_, ht, h0, conc, underlying, Sem.run_bind, run_program, hu, Sem.run_pure, Result.andThen_ok, goInt, run_getObj hm (by simp)]
      simp
    · cases hn
  · cases hn

noncomputable def capA (P : Program) (t : TypeId) (x : AV) : Option Nat :=
  match P.underlying t, x with
  | some (.slice _), .sl _ _ _ cap false => some cap
  | some (.slice _), .sn => some 0
  | _, _ => none

theorem opB_cap {argTypes : Array TypeId} {t : TypeId} (ht : argTypes[0]? = some t) {x : AV} {n : Nat} (hn : capA P t x = some n) (rest : List AV) :
    OpB P .cap argTypes (x :: rest) h (.i .i64 n) h := by
  intro μ w ty consts r hd
  refine ⟨μ, w, Adv.refl r, by simp [Dom], ?_⟩
  have h0 : (concL μ (x :: rest)).toArray[0]? = some (conc μ x) := by simp [concL]
  suffices (Builtin.cap_ argTypes ty (concL μ (x :: rest)).toArray).run P w = .ok (.int .i64 n) w by
    simp [builtin, this, conc]
  unfold capA at hn
  split at hn
  · rename_i e id off len cap hu
    obtain rfl := Option.some.inj hn
    simp only [Builtin.cap_, ht, h0, conc, underlying, Sem.run_bind, run_program, hu, Sem.run_pure, Result.andThen_ok, goInt]
    simp
  · rename_i e hu
    obtain rfl := Option.some.inj hn
    simp only [Builtin.cap_, ht, h0, conc, underlying, Sem.run_bind, run_program, hu, Sem.run_pure, Result.andThen_ok, goInt]
  · cases hn

/-! ### The first cells of a slice or string -/

/-- The cells of what is appended or copied: of so many elements of so many cells. -/
noncomputable def firstA (h : H) (size n : Nat) (x : AV) : Option (List AV) :=
  match x with
  | .sl id off len _ _ => if n ≤ len then match h.get id with
      | some (.cells cs _) => if off + n * size ≤ cs.length then some (sub cs off (n * size)) else none
      | _ => none
    else none
  | .sn => if n = 0 then some [] else none
  | .s l => if n ≤ l.length then some ((l.take n).map fun c => .i .u8 ((c % 256 : Nat) : Int)) else none
  | _ => none

def lenSA : AV → Option Nat
  | .sl _ _ len _ _ => some len
  | .sn => some 0
  | .s l => some l.length
  | _ => none

theorem lenSA_run {x : AV} {n : Nat} (e : lenSA x = some n) (μ : Mu) (w : World) : (Builtin.lenOf (conc μ x)).run P w = .ok n w := by
  cases x <;> simp only [lenSA] at e <;> first | cases e; done | skip
  all_goals obtain rfl := Option.some.inj e
  all_goals simp [conc, Builtin.lenOf, bytesOf_size]

theorem firstA_run {μ : Mu} {w : World} (r : Rel μ h w) {size n : Nat} {x : AV} (d : Dom μ.dom x) {l : List AV} (e : firstA h size n x = some l) :
    (Builtin.firstCells size n (conc μ x)).run P w = .ok (concL μ l).toArray w ∧ DomL μ.dom l := by
  unfold firstA at e
  split at e
  · rename_i id off len cap g
    split at e
    · split at e
      · rename_i cs es hg
        split at e
        · rename_i hl
          obtain rfl := Option.some.inj e
          simp only [Dom] at d
          obtain ⟨h1, h2⟩ := r.loadCells (P := P) d hg hl
          exact ⟨by simp only [conc, Builtin.firstCells]; exact h1, h2⟩
        · cases e
      · cases e
    · cases e
  · split at e
    · obtain rfl := Option.some.inj e
      exact ⟨by simp [conc, Builtin.firstCells, concL], trivial⟩
    · cases e
  · rename_i l'
    split at e
    · rename_i hn
      obtain rfl := Option.some.inj e
      refine ⟨?_, DomL_all.2 fun v hv => by obtain ⟨c, _, rfl⟩ := List.mem_map.1 hv; simp [Dom]⟩
      simp only [conc, Builtin.firstCells, Sem.run_pure, Result.ok.injEq, and_true]
      rw [concL_map, bytesOf_extract]
      apply Array.ext'
      simp only [bytesOf, Array.toList_map, List.map_map]
      refine List.map_congr_left fun c _ => ?_
      simp [conc]
    · cases e
  · cases e

/-! ### copy, make, clear -/

noncomputable def copyA (P : Program) (h : H) (t : TypeId) (dst src : AV) : Option (Nat × H) :=
  match P.underlying t with
  | some (.slice elem) => match tsize P elem, lenSA src, lenSA dst with
    | some size, some m, some n =>
      match firstA h size (Nat.min m n) src with
      | some new => match dst with
        | .sl id off _ _ _ => match h.get id with
          | some (.cells cs es) => if off + new.length ≤ cs.length ∧ new.all AV.one = true then some (Nat.min m n, h.put id (some (.cells (lay cs off new) es))) else none
          | _ => none
        | .sn => some (Nat.min m n, h)
        | _ => none
      | none => none
    | _, _, _ => none
  | _ => none

theorem opB_copy {argTypes : Array TypeId} {t : TypeId} (ht : argTypes[0]? = some t) {x y : AV} {n : Nat} {h' : H} (hn : copyA P h t x y = some (n, h')) (rest : List AV) :
    OpB P .copy argTypes (x :: y :: rest) h (.i .i64 n) h' := by
  intro μ w ty consts r hd
  have h0 : (concL μ (x :: y :: rest)).toArray[0]? = some (conc μ x) := by simp [concL]
  have h1 : (concL μ (x :: y :: rest)).toArray[1]? = some (conc μ y) := by simp [concL]
  suffices ∃ w', Adv μ h w μ h' w' ∧ (Builtin.copy_ argTypes ty (concL μ (x :: y :: rest)).toArray).run P w = .ok (.int .i64 n) w' by
    obtain ⟨w', ha, hr⟩ := this
    exact ⟨μ, w', ha, by simp [Dom], by simp [builtin, hr, conc]⟩
  have hdx := hd.1
  have hdy := hd.2.1
  unfold copyA at hn
  split at hn
  · rename_i elem hu
    split at hn
    · rename_i size m k hs hm hk
      split at hn
      · rename_i new hnew
        obtain ⟨e1, e2⟩ := firstA_run (P := P) r hdy hnew
        split at hn
        · rename_i id off len cap g
          split at hn
          · rename_i cs es hg
            split at hn
            · rename_i hc
              obtain ⟨rfl, rfl⟩ := Prod.mk.inj (Option.some.inj hn)
              simp only [Dom] at hdx
              obtain ⟨w', h2, h3⟩ := r.storeCells (P := P) hdx es new (off := off) (i := 0) hg (by omega) e2 hc.2
              refine ⟨w', h3, ?_⟩
              obtain rfl : len = k := by simpa [lenSA] using hk
              simp only [Builtin.copy_, ht, h0, h1, underlying, Sem.run_bind, run_program, hu, Sem.run_pure, Result.andThen_ok, conc, lenSA_run hm, sizeOf_run hs, e1]
              rw [h2]
              rfl
            · cases hn
          · cases hn
        · obtain ⟨rfl, rfl⟩ := Prod.mk.inj (Option.some.inj hn)
          refine ⟨w, Adv.refl r, ?_⟩
          obtain rfl : 0 = k := by simpa [lenSA] using hk
          simp only [Builtin.copy_, ht, h0, h1, underlying, Sem.run_bind, run_program, hu, Sem.run_pure, Result.andThen_ok, conc, lenSA_run hm, sizeOf_run hs, e1]
          rfl
        · cases hn
      · cases hn
    · cases hn
  · cases hn

def makeSliceA (P : Program) (t : TypeId) (len cap : AV) : Option (List AV × Nat × Nat) :=
  match P.underlying t, len, cap with
  | some (.slice elem), .i _ l, .i _ c =>
    match P.info? elem with
    | some i => match zeroA P elem with
      | some zero =>
        if 0 ≤ l ∧ l ≤ c ∧ c ≤ 1099511627776 ∧ i.bytes * c.toNat ≤ 2 ^ 48 ∧ zero.length = i.size then some (rep zero c.toNat, l.toNat, c.toNat) else none
      | none => none
    | none => none
  | _, _, _ => none

theorem wrap_i64 {n : Int} (h0 : 0 ≤ n) (h1 : n ≤ 1099511627776) : IntKind.i64.wrap n = n := by
  have h2 : n % 18446744073709551616 = n := Int.emod_eq_of_lt h0 (by omega)
  simp [IntKind.wrap, IntKind.bits, IntKind.signed, h2]
  omega

theorem opV_makeSlice {t : TypeId} {x y : Operand} (ho : o.op = .makeSlice t x y) {l : List AV} {n c : Nat} (hm : makeSliceA P t (ρ x) (ρ y) = some (l, n, c)) :
    OpV P o ρ h (.sl h.nx 0 n c false) (h.add (.cells l 0)) := by
  intro μ w r hd ρc hc
  have ex := hc x (by simp [ho, Op.operands])
  have ey := hc y (by simp [ho, Op.operands])
  unfold makeSliceA at hm
  split at hm
  · rename_i elem k1 len k2 cap hu hx hy
    rw [hx] at ex
    rw [hy] at ey
    split at hm
    · rename_i info hi
      split at hm
      · rename_i zero hz
        split at hm
        · rename_i hb
          obtain ⟨rfl, rfl, rfl⟩ : rep zero cap.toNat = l ∧ len.toNat = n ∧ cap.toNat = c := by
            have := Option.some.inj hm
            simpa using this
          obtain ⟨b1, b2, b3, b4, b5⟩ := hb
          obtain ⟨v, hv, hcells⟩ := zeroA_cells hz w
          have hs : tsize P elem = some zero.length := by simp [tsize, hi, b5]
          refine ⟨_, _, new_cells r elem (rep_dom ((hcells μ).2 _) cap.toNat) 0 (by omega), by simp [Dom, Mu.new], .inl ?_⟩
          have w1 := wrap_i64 b1 (by omega)
          have w2 := wrap_i64 (n := cap) (by omega) b3
          have hbytes : ¬ ((info.bytes : Int) * cap > 2 ^ 48) := by
            have : ((info.bytes * cap.toNat : Nat) : Int) ≤ (2 ^ 48 : Nat) := by exact_mod_cast b4
            have e : ((info.bytes * cap.toNat : Nat) : Int) = (info.bytes : Int) * cap := by
              rw [Int.natCast_mul, Int.toNat_of_nonneg (by omega)]
            rw [e] at this
            have e2 : ((2 ^ 48 : Nat) : Int) = 2 ^ 48 := rfl
            omega
          have hif : (decide (cap < 0) || decide ((info.bytes : Int) * cap > 2 ^ 48) || decide (len < 0) || decide (len > cap)) = false := by
            simp only [Bool.or_eq_false_iff, decide_eq_false_iff_not]
            exact ⟨⟨⟨by omega, hbytes⟩, by omega⟩, by omega⟩
          have hmain : (Instr.makeSlice t (.int k1 len) (.int k2 cap)).run P w = .ok (.slice (some ⟨w.heap.size, 0, none⟩) len.toNat cap.toNat) { w with heap := w.heap.push (.cells (concL μ (rep zero cap.toNat)).toArray elem) } := by
            simp only [Instr.makeSlice, underlying, Sem.run_bind, run_program, hu, Sem.run_pure, Result.andThen_ok, asInt, asIntOf, typeInfo, hi, w1, w2, hif, Bool.false_eq_true, if_false, run_askRoom, sizeOf_run hs]
            by_cases h0 : cap.toNat * zero.length = 0
            · have hr0 : concL μ (rep zero cap.toNat) = [] := by
                rw [concL_map, List.map_eq_nil_iff]
                exact List.eq_nil_of_length_eq_zero (by rw [rep_length]; exact h0)
              have hra : Array.range 0 = (#[] : Array Nat) := Array.eq_empty_of_size_eq_zero (by simp)
              simp [h0, hr0, newRow, hra]
            · rw [if_neg h0]
              simp only [Sem.run_bind, hv, Result.andThen_ok, Sem.run_pure, (hcells μ).1]
              rw [rep_conc μ zero cap.toNat _ rfl]
              simp [newRow]
          simp [execOp, ho, ex, ey, conc, hmain, Mu.new_blk, Mu.new_sh]
        · cases hm
      · cases hm
    · cases hm
  · cases hm

end Go.Arm

/- The abstract machine: append. -/
namespace Go.Arm
variable {P : Program} {o : Oper} {ρ : Operand → AV} {h : H}

/-- Values laid over a row of cells. -/
def over (c : Array Value) (o : Nat) : List Value → Array Value
  | [] => c
  | v :: vs => over (c.setIfInBounds o v) (o + 1) vs

theorem over_size (vs : List Value) : ∀ (c : Array Value) (o : Nat), (over c o vs).size = c.size := by
  induction vs with
  | nil => intro c o; rfl
  | cons v vs ih => intro c o; simp only [over]; rw [ih]; simp

theorem over_lt (vs : List Value) : ∀ (c : Array Value) (o i : Nat), i < o → (over c o vs)[i]? = c[i]? := by
  induction vs with
  | nil => intro c o i _; rfl
  | cons v vs ih =>
    intro c o i hi
    simp only [over]
    rw [ih _ _ _ (by omega), Array.getElem?_setIfInBounds_ne (by omega)]

theorem over_in (vs : List Value) : ∀ (c : Array Value) (o i : Nat) (v : Value), vs[i]? = some v → o + vs.length ≤ c.size → (over c o vs)[o + i]? = some v := by
  induction vs with
  | nil => intro c o i v e; cases e
  | cons u vs ih =>
    intro c o i v e hl
    simp only [List.length_cons] at hl
    simp only [over]
    cases i with
    | zero =>
      obtain rfl : u = v := by simpa using e
      rw [over_lt _ _ _ _ (by omega), Nat.add_zero, Array.getElem?_setIfInBounds_self]
      rw [if_pos (by omega)]
    | succ i =>
      rw [show o + (i + 1) = o + 1 + i from by omega]
      exact ih _ _ _ _ (by simpa using e) (by simp; omega)

theorem run_storeCells_over {P : Program} {b : Nat} {elem : TypeId} {fr : Nat × Nat} (vs : List Value) : ∀ {w : World} {c : Array Value} (o i : Nat), w.heap[b]? = some (.cells c elem fr) →
    o + i + vs.length ≤ c.size → (∀ k, o + i ≤ k → k < c.size → ¬(fr.1 ≤ k ∧ k < fr.2)) → (∀ v ∈ vs, v.oneCell' = true) →
    ∃ w', (storeCells ⟨b, o, none⟩ vs i).run P w = .ok () w' ∧ w'.heap[b]? = some (.cells (over c (o + i) vs) elem fr) ∧ w'.heap.size = w.heap.size ∧ (∀ k, k ≠ b → w'.heap[k]? = w.heap[k]?) ∧
      w'.os = w.os ∧ w'.tape = w.tape ∧ w'.output = w.output := by
  induction vs with
  | nil => intro w c o i hb _ _ _; exact ⟨w, rfl, hb, rfl, fun _ _ => rfl, rfl, rfl, rfl⟩
  | cons v vs ih =>
    intro w c o i hb hl hf h1
    simp only [List.length_cons] at hl
    have hcell : w.cell? ⟨b, o + i, none⟩ = some c[o + i] := by
      simp only [World.cell?, hb]
      simp
    have hfr : w.frozen? ⟨b, o + i, none⟩ = false := by
      have := hf (o + i) (Nat.le_refl _) (by omega)
      simp only [World.frozen?, hb]
      simpa using this
    have hset : (w.setCell ⟨b, o + i, none⟩ v).heap[b]? = some (.cells (c.setIfInBounds (o + i) v) elem fr) := by
      simp only [World.setCell, Array.getElem?_modify]
      simp [hb]
    obtain ⟨w', e1, e2, e3, e4, e5, e6, e7⟩ := ih (w := w.setCell ⟨b, o + i, none⟩ v) (c := c.setIfInBounds (o + i) v) o (i + 1) hset (by simp; omega)
      (fun k hk hk2 => hf k (by omega) (by simpa using hk2)) (fun u hu => h1 u (by simp [hu]))
    refine ⟨w', ?_, ?_, ?_, ?_, e5, e6, e7⟩
    · simp only [storeCells, Sem.run_bind, add_none]
      rw [run_store P w _ _ _ (h1 v (by simp)), hcell]
      simp only [hfr, Bool.false_eq_true, if_false, Result.andThen_ok]
      exact e1
    · rw [e2, show o + (i + 1) = o + i + 1 from by omega]; rfl
    · rw [e3]; simp [World.setCell]
    · intro k hk
      rw [e4 k hk]
      simp only [World.setCell, Array.getElem?_modify]
      rw [if_neg (fun e => hk e.symm)]

/-- The rest of a new array. -/
theorem zeroCells_conc (μ : Mu) (zero : List AV) (n : Nat) : Builtin.zeroCells (concL μ zero).toArray n = (concL μ (rep zero n)).toArray := by
  unfold Builtin.zeroCells
  refine rep_conc μ zero n _ ?_
  rw [concL_map]; simp

theorem growBy_le (need : Nat) : ∀ (rounds c : Nat), c ≤ 2 * need + 1024 → Builtin.growBy need rounds c ≤ 2 * need + 1024 := by
  intro rounds
  induction rounds with
  | zero => intro c h; exact h
  | succ r ih =>
    intro c h
    simp only [Builtin.growBy]
    split
    · exact h
    · refine ih _ ?_
      omega

theorem nextslicecap_le {need c : Nat} (h : c < need) : Builtin.nextslicecap need c ≤ 2 * need + 1024 := by
  unfold Builtin.nextslicecap
  split
  · omega
  · split
    · omega
    · exact growBy_le _ _ _ (by omega)

theorem run_appendCap {P : Program} (w : World) (need old : Nat) (elem : TypeId) (hn : need < 2 ^ 63) :
    ∃ c, need ≤ c ∧ (choose (.appendCap need old elem)).run P w = .ok c { w with drawn := w.drawn + 1 } := by
  refine ⟨_, ?_, by simp [Question.forced]; rfl⟩
  simp only [Question.cut]
  omega

/-- What is appended: how many elements, which cells. -/
noncomputable def newA (P : Program) (h : H) (elem : TypeId) (size : Nat) (zero : List AV) (xt : Option TypeId) (x : AV) : Option (Nat × List AV) :=
  match xt with
  | none => match lenSA x with
    | some n => match firstA h size n x with
      | some l => some (n, l)
      | none => none
    | none => none
  | some xt => match P.underlying xt with
    | none => none
    | some (.int _) => match x with
      | .i _ m => if 0 ≤ m ∧ m ≤ 1099511627776 then some (m.toNat, rep zero m.toNat) else none
      | _ => none
    | some _ => match lenSA x with
      | some n => match firstA h size n x with
        | some l => some (n, l)
        | none => none
      | none => none

noncomputable def appendA (P : Program) (h : H) (t : TypeId) (xt : Option TypeId) (s x : AV) : Option (AV × H) :=
  match P.underlying t with
  | some (.slice elem) => match P.info? elem, zeroA P elem with
    | some i, some zero => match newA P h elem i.size zero xt x with
      | some (n, new) =>
        if zero.length = i.size ∧ new.length = n * i.size ∧ new.all AV.one = true ∧ n * i.bytes ≤ 2 ^ 48 ∧ i.size < 65536 then
          match s with
          | .sn => if n = 0 then some (.sn, h)
            else if n < 1099511627776 ∧ (2 * n + 1024) * i.bytes ≤ 2 ^ 48 then some (.sl h.nx 0 n n true, h.add (.cells new (i.size + (elem + 1) * 65536))) else none
          | .sl id off len cap g => match h.get id with
            | some (.cells cs es) =>
              if off + len * i.size ≤ cs.length ∧ len + n < 1099511627776 then
                (if len + n ≤ cap then
                  (if off + len * i.size + new.length ≤ cs.length then some (.sl id off (len + n) cap g, h.put id (some (.cells (lay cs (off + len * i.size) new) es))) else none)
                else if (2 * (len + n) + 1024) * i.bytes ≤ 2 ^ 48 then
                  (if g then
                    (if es % 65536 = i.size ∧ off + cap * i.size = cs.length then some (.sl h.nx 0 (len + n) (len + n) true, (h.put id none).add (.cells (sub cs off (len * i.size) ++ new) (if es / 65536 = elem + 1 ∧ off = 0 then es else i.size))) else none)
                  else some (.sl h.nx 0 (len + n) (len + n) true, h.add (.cells (sub cs off (len * i.size) ++ new) (i.size + (elem + 1) * 65536))))
                else none)
              else none
            | _ => none
          | _ => none
        else none
      | none => none
    | _, _ => none
  | _ => none

theorem sub_length {cs : List AV} {off n : Nat} (h : off + n ≤ cs.length) : (sub cs off n).length = n := by
  simp [sub]; omega

/-- The new array of an append. -/
theorem adv_grow {μ : Mu} {w : World} (r : Rel μ h w) (elem : TypeId) {cells : List AV} (d : DomL μ.dom cells) {size need c : Nat} (hl : cells.length = need * size) (hc : need ≤ c) {zero : List AV}
    (hz : zero.length = size) (wd : Nat) {es : Nat} (hes : es % 65536 = size) (hty : 65536 ≤ es → elem + 1 = es / 65536) :
    Adv μ h w (μ.new h.nx w.heap.size 0 (c - need)) (h.add (.cells cells es)) { w with heap := w.heap.push (.cells ((concL μ cells).toArray ++ Builtin.zeroCells (concL μ zero).toArray (c - need)) elem), drawn := wd } := by
  have hle := Mu.le_new r.not_dom w.heap.size 0 (c - need)
  rw [zeroCells_conc]
  have hlen : (concL μ cells).length = cells.length := by rw [concL_map]; simp
  have hlen2 : (concL μ (rep zero (c - need))).length = (c - need) * size := by rw [concL_map]; simp [rep_length, hz]
  refine adv_new r _ _ ⟨_, _, _, rfl, DomL.mono hle.dom _ d, ?_, ?_, ?_⟩ rfl rfl rfl rfl
  · refine ⟨?_, fun k => ⟨hty k, Mu.new_sh _ _ _ _ _⟩⟩
    rw [Mu.new_sh, Mu.new_slack, hes]
    simp [hlen, hlen2]
  · intro i v hv
    have hi : i < cells.length := (List.getElem?_eq_some_iff.1 hv).1
    rw [Mu.new_sh, conc_le hle v (DomL_all.1 d v (List.mem_of_getElem? hv)), Nat.zero_add, Array.getElem?_append_left (by simp [hlen, hi]), concL_map]
    simp [hv]
  · intro k _ _ hk
    exact absurd hk.2 (by omega)

theorem newA_run {μ : Mu} {w : World} (r : Rel μ h w) {elem : TypeId} {size : Nat} {zero : List AV} {xt : Option TypeId} {x : AV} (d : Dom μ.dom x) (dz : DomL μ.dom zero) {n : Nat} {new : List AV}
    (e : newA P h elem size zero xt x = some (n, new)) : DomL μ.dom new := by
  unfold newA at e
  split at e
  · split at e
    · split at e
      · rename_i l hl
        obtain ⟨rfl, rfl⟩ := Prod.mk.inj (Option.some.inj e)
        exact (firstA_run (P := P) r d hl).2
      · cases e
    · cases e
  · split at e
    · cases e
    · split at e
      · split at e
        · obtain ⟨rfl, rfl⟩ := Prod.mk.inj (Option.some.inj e)
          exact rep_dom dz _
        · cases e
      · cases e
    · split at e
      · split at e
        · rename_i l hl
          obtain ⟨rfl, rfl⟩ := Prod.mk.inj (Option.some.inj e)
          exact (firstA_run (P := P) r d hl).2
        · cases e
      · cases e

/-- append's own first steps: whether zeros are meant, how many, and what is appended. -/
theorem append_head {argTypes : Array TypeId} {t elem : TypeId} {i : TypeInfo} {zero : List AV} {x : AV} {n : Nat} {new : List AV} (ht : argTypes[0]? = some t)
    (hu : P.underlying t = some (.slice elem)) (hi : P.info? elem = some i) (hz : zeroA P elem = some zero) (hzl : zero.length = i.size)
    (e : newA P h elem i.size zero argTypes[1]? x = some (n, new)) (hnl : new.length = n * i.size) (ty : TypeId) (base : Option Addr) (sLen sCap : Nat) :
    ∀ (μ : Mu) (w : World), Rel μ h w → Dom μ.dom x → ∀ (args : Array Value), args[0]? = some (.slice base sLen sCap) → args[1]? = some (conc μ x) → sLen + n < 1099511627776 → n * i.bytes ≤ 2 ^ 48 →
      (sLen + n > sCap → (2 * (sLen + n) + 1024) * i.bytes ≤ 2 ^ 48) →
      ∃ appended : Sem (Array Value), (∀ w', Rel μ h w' → appended.run P w' = .ok (concL μ new).toArray w') ∧
        (Builtin.append_ argTypes ty args).run P w =
          if sLen + n ≤ sCap then (appended.run P w).andThen fun new w => ((match base with | some a => storeCells (a.add (sLen * i.size)) new.toList | none => pure ()).run P w).andThen fun _ w => .ok (.slice base (sLen + n) sCap) w
          else ((choose (.appendCap (sLen + n) sCap elem)).run P w).andThen fun c w => ((Builtin.firstCells i.size sLen (.slice base sLen sCap)).run P w).andThen fun old w => (appended.run P w).andThen fun new w =>
            .ok (.slice (some ⟨w.heap.size, 0, none⟩) (sLen + n) c) { w with heap := w.heap.push (.cells (old ++ new ++ Builtin.zeroCells (concL μ zero).toArray (c - (sLen + n))) elem) } := by
  intro μ w r d args ha0 ha1 hlt hnb hcap
  have hs : tsize P elem = some i.size := by simp [tsize, hi]
  have hzr : ∀ w : World, ∃ v, (zeroValue elem).run P w = .ok v w ∧ v.cells = (concL μ zero).toArray := fun w => by
    obtain ⟨v, hv, hc⟩ := zeroA_cells hz w
    exact ⟨v, hv, (hc μ).1⟩
  have hns : ¬(sLen + n ≤ sCap) → ¬(Builtin.nextslicecap (sLen + n) sCap * i.bytes > 2 ^ 48) := fun hle => by
    have h1 := nextslicecap_le (need := sLen + n) (c := sCap) (by omega)
    have h2 := hcap (by omega)
    have := Nat.mul_le_mul_right i.bytes h1
    omega
  have hmax : ¬ (((sLen + n : Nat) : Int) > IntKind.i64.max) := by
    have : IntKind.i64.max = 9223372036854775807 := rfl
    rw [this]; omega
  have tail : ∀ (zeros : Bool) (appended : Sem (Array Value)) (L : World → Value), (∀ w, (zeroValue elem).run P w = .ok (L w) w ∧ (L w).cells = (concL μ zero).toArray) →
      (do
        let need := sLen + n
        if need ≤ sCap then
          let new ← appended
          if let some a := base then storeCells (a.add (sLen * i.size)) new.toList
          pure (.slice base need sCap)
        else
          if (need : Int) > IntKind.i64.max ∧ (zeros ∨ (← typeInfo elem).bytes = 0) then runtimePanic (.error "growslice: len out of range")
          if Builtin.nextslicecap need sCap * (← typeInfo elem).bytes > 2 ^ 48 then (if zeros then runtimePanic (.error "growslice: len out of range") else do
            if !(← Builtin.mayShare i.size sLen n base (conc μ x)) then mark .noRoom
            unsupported (.resourceLimit "append: a slice or a string whose bytes no memory bears"))
          let newCap ← choose (.appendCap need sCap elem)
          askRoom (newCap * (← typeInfo elem).bytes)
          let old ← Builtin.firstCells i.size sLen (.slice base sLen sCap)
          let new ← appended
          let rest := Builtin.zeroCells (← zeroValue elem).cells (newCap - need)
          pure (.slice (some (← newRow elem (old ++ new ++ rest))) need newCap) : Sem Value).run P w =
          if sLen + n ≤ sCap then (appended.run P w).andThen fun new w => ((match base with | some a => storeCells (a.add (sLen * i.size)) new.toList | none => pure ()).run P w).andThen fun _ w => .ok (.slice base (sLen + n) sCap) w
          else ((choose (.appendCap (sLen + n) sCap elem)).run P w).andThen fun c w => ((Builtin.firstCells i.size sLen (.slice base sLen sCap)).run P w).andThen fun old w => (appended.run P w).andThen fun new w =>
            .ok (.slice (some ⟨w.heap.size, 0, none⟩) (sLen + n) c) { w with heap := w.heap.push (.cells (old ++ new ++ Builtin.zeroCells (concL μ zero).toArray (c - (sLen + n))) elem) } := by
    intro zeros appended L hL
    by_cases hle : sLen + n ≤ sCap
    · simp only [if_pos hle, Sem.run_bind]
      congr 1
      funext new w
      cases base <;> simp
    · simp only [if_neg hle, typeInfo, Sem.run_bind, run_program, hi, Sem.run_pure, Result.andThen_ok]
      rw [if_neg (fun hh => hmax hh.1)]
      simp only [Sem.run_bind, run_program, hi, Sem.run_pure, Result.andThen_ok]
      rw [if_neg (hns hle)]
      simp only [Sem.run_pure, Result.andThen_ok, Sem.run_bind, run_program, hi, run_askRoom]
      congr 1
      funext c w
      congr 1
      funext old w
      congr 1
      funext new w
      simp only [(hL w).1, (hL w).2, Result.andThen_ok, newRow, Sem.run_bind, run_newObj, Sem.run_pure]
  have hL : ∃ L : World → Value, ∀ w, (zeroValue elem).run P w = .ok (L w) w ∧ (L w).cells = (concL μ zero).toArray := ⟨fun w => (hzr w).choose, fun w => (hzr w).choose_spec⟩
  obtain ⟨L, hL⟩ := hL
  have hun : ∀ w : World, (underlying t).run P w = .ok (.slice elem) w := fun w => by simp [underlying, hu]
  unfold newA at e
  cases hxt : argTypes[1]? with
  | none =>
    rw [hxt] at e
    simp only at e
    split at e
    · rename_i k hk
      split at e
      · rename_i l hl
        obtain ⟨rfl, rfl⟩ := Prod.mk.inj (Option.some.inj e)
        refine ⟨Builtin.firstCells i.size k (conc μ x), fun w' r' => (firstA_run r' d hl).1, ?_⟩
        rw [← tail false _ L hL]
        simp only [Builtin.append_, ht, ha0, ha1, hxt, Sem.run_bind, hun, Result.andThen_ok, sizeOf_run hs, Sem.run_pure, Bool.false_eq_true, if_false, lenSA_run hk, Bool.not_false, if_true]
        rfl
      · cases e
    · cases e
  | some xt =>
    rw [hxt] at e
    simp only at e
    have hux : ∀ (d : TypeDesc), P.underlying xt = some d → ∀ w : World, (underlying xt).run P w = .ok d w := fun d hd w => by simp [underlying, hd]
    split at e
    · cases e
    · rename_i k hk
      split at e
      · rename_i ik m
        split at e
        · rename_i hm
          obtain ⟨rfl, rfl⟩ := Prod.mk.inj (Option.some.inj e)
          have hw : IntKind.i64.wrap m = m := wrap_i64 hm.1 hm.2
          refine ⟨if m.toNat * i.size = 0 then pure #[] else do pure (Builtin.zeroCells (← zeroValue elem).cells m.toNat), fun w' r' => ?_, ?_⟩
          · split
            · rename_i h0
              have : rep zero m.toNat = [] := List.eq_nil_of_length_eq_zero (by rw [rep_length, hzl]; exact h0)
              simp [this, concL]
            · simp only [Sem.run_bind, (hL w').1, Result.andThen_ok, Sem.run_pure, (hL w').2, zeroCells_conc]
          · rw [← tail true _ L hL]
            have hb : ¬ ((m : Int) * i.bytes > 2 ^ 48) := by
              have h1 : ((m.toNat * i.bytes : Nat) : Int) ≤ ((2 ^ 48 : Nat) : Int) := by exact_mod_cast hnb
              rw [Int.natCast_mul, Int.toNat_of_nonneg hm.1] at h1
              have e2 : ((2 ^ 48 : Nat) : Int) = 2 ^ 48 := rfl
              omega
            simp only [Builtin.append_, ht, ha0, ha1, hxt, Sem.run_bind, hun, hux _ hk, Result.andThen_ok, sizeOf_run hs, Sem.run_pure, if_true, asInt, asIntOf, conc, hw, typeInfo, run_program, hi, Bool.not_true, Bool.false_eq_true, if_false]
            rw [if_neg (by omega)]
            simp only [Sem.run_bind, run_program, hi, Sem.run_pure, Result.andThen_ok]
            rw [if_neg hb]
            simp only [Sem.run_pure, Result.andThen_ok, Sem.run_bind, hi]
            rfl
        · cases e
      · cases e
    · rename_i dd hni hk
      split at e
      · rename_i k hkk
        split at e
        · rename_i l hl
          obtain ⟨rfl, rfl⟩ := Prod.mk.inj (Option.some.inj e)
          refine ⟨Builtin.firstCells i.size k (conc μ x), fun w' r' => (firstA_run r' d hl).1, ?_⟩
          rw [← tail false _ L hL]
          have hm : (dd matches .int _) = false := by
            cases dd <;> first | rfl | exact (hni _ rfl).elim
          simp only [Builtin.append_, ht, ha0, ha1, hxt, Sem.run_bind, hun, hux _ hk, Result.andThen_ok, sizeOf_run hs, Sem.run_pure, hm, Bool.false_eq_true, if_false, lenSA_run hkk, Bool.not_false, if_true]
          rfl
        · cases e
      · cases e

theorem conc_oneCell {μ : Mu} {l : List AV} (h : l.all AV.one = true) : ∀ v ∈ concL μ l, v.oneCell' = true := by
  intro v hv
  rw [concL_map] at hv
  obtain ⟨a, ha, rfl⟩ := List.mem_map.1 hv
  exact conc_one (List.all_eq_true.1 h a ha)

theorem concL_append (μ : Mu) (a b : List AV) : concL μ (a ++ b) = concL μ a ++ concL μ b := by simp [concL_map]

theorem DomL_append {D : Nat → Prop} {a b : List AV} (ha : DomL D a) (hb : DomL D b) : DomL D (a ++ b) :=
  DomL_all.2 fun v hv => (List.mem_append.1 hv).elim (DomL_all.1 ha v) (DomL_all.1 hb v)

theorem opB_append {argTypes : Array TypeId} {t : TypeId} (ht : argTypes[0]? = some t) {x y v : AV} {h' : H} (hn : appendA P h t argTypes[1]? x y = some (v, h')) (rest : List AV) :
    OpB P .append argTypes (x :: y :: rest) h v h' := by
  intro μ w ty consts r hd
  have h0 : (concL μ (x :: y :: rest)).toArray[0]? = some (conc μ x) := by simp [concL]
  have h1 : (concL μ (x :: y :: rest)).toArray[1]? = some (conc μ y) := by simp [concL]
  suffices ∃ μ' w', Adv μ h w μ' h' w' ∧ Dom μ'.dom v ∧ (Builtin.append_ argTypes ty (concL μ (x :: y :: rest)).toArray).run P w = .ok (conc μ' v) w' by
    obtain ⟨μ', w', ha, hd, hr⟩ := this
    exact ⟨μ', w', ha, hd, by simp [builtin, hr]⟩
  have hdx := hd.1
  have hdy := hd.2.1
  unfold appendA at hn
  split at hn
  · rename_i elem hu
    split at hn
    · rename_i i zero hi hz
      split at hn
      · rename_i n new hnew
        split at hn
        · rename_i hc
          obtain ⟨c1, c2, c3, c4, c5⟩ := hc
          obtain ⟨_, _, hcz⟩ := zeroA_cells hz w
          have dz : DomL μ.dom zero := (hcz μ).2 _
          have dn := newA_run (P := P) r hdy dz hnew
          split at hn
          · -- nothing to begin with
            split at hn
            · rename_i hn0
              subst hn0
              obtain ⟨rfl, rfl⟩ := Prod.mk.inj (Option.some.inj hn)
              obtain ⟨app, ha1, ha2⟩ := append_head ht hu hi hz c1 hnew c2 ty none 0 0 μ w r hdy _ h0 h1 (by omega) (by omega) (by omega)
              refine ⟨μ, w, Adv.refl r, by simp [Dom], ?_⟩
              rw [ha2, if_pos (by omega), ha1 w r]
              simp [conc]
            · rename_i hn0
              split at hn
              · rename_i hb
                obtain ⟨rfl, rfl⟩ := Prod.mk.inj (Option.some.inj hn)
                obtain ⟨app, ha1, ha2⟩ := append_head ht hu hi hz c1 hnew c2 ty none 0 0 μ w r hdy _ h0 h1 (by omega) c4 (by rw [Nat.zero_add]; exact fun _ => hb.2)
                obtain ⟨c, hc1, hc2⟩ := run_appendCap (P := P) w (0 + n) 0 elem (by omega)
                have hadv := adv_grow r elem (size := i.size) (need := n) (c := c) dn c2 (by omega) c1 (w.drawn + 1) (es := i.size + (elem + 1) * 65536) (tag_mod elem c5) (fun _ => tag_div elem c5)
                refine ⟨_, _, hadv, by simp [Dom, Mu.new], ?_⟩
                rw [ha2, if_neg (by omega), hc2]
                simp only [Result.andThen_ok]
                rw [show (Builtin.firstCells i.size 0 (.slice none 0 0)).run P { w with drawn := w.drawn + 1 } = .ok #[] { w with drawn := w.drawn + 1 } from rfl]
                simp only [Result.andThen_ok]
                rw [ha1 _ (r.drawn _)]
                simp only [Result.andThen_ok, conc, Mu.new_blk, Mu.new_sh, Mu.new_slack, if_true, Nat.zero_add, Array.empty_append]
                rw [show n + (c - n) = c from by omega]
              · cases hn
          · rename_i id off len cap g
            split at hn
            · rename_i cs es hg
              simp only [Dom] at hdx
              split at hn
              · rename_i hle
                obtain ⟨l1, l2⟩ := hle
                have hxc : conc μ (.sl id off len cap g) = .slice (some ⟨μ.blk id, μ.sh id + off, none⟩) len (if g then cap + μ.slack id else cap) := by simp only [conc]
                rw [hxc] at h0
                have hcapg : cap ≤ (if g = true then cap + μ.slack id else cap) := by split <;> omega
                split at hn
                · rename_i hin
                  split at hn
                  · rename_i hroom
                    obtain ⟨rfl, rfl⟩ := Prod.mk.inj (Option.some.inj hn)
                    obtain ⟨app, ha1, ha2⟩ := append_head ht hu hi hz c1 hnew c2 ty _ len _ μ w r hdy _ h0 h1 (by omega) c4 (by omega)
                    obtain ⟨w', e1, e2⟩ := r.storeCells (P := P) hdx es new (off := off + len * i.size) (i := 0) hg (by omega) dn c3
                    refine ⟨μ, w', e2, by simp only [Dom]; exact hdx, ?_⟩
                    rw [ha2, if_pos (by omega), ha1 w r]
                    simp only [Result.andThen_ok, add_mul]
                    rw [e1]
                    simp only [Result.andThen_ok, conc]
                  · cases hn
                · rename_i hout
                  split at hn
                  · rename_i hbytes
                    have dold : DomL μ.dom (sub cs off (len * i.size)) := (r.loadCells (P := P) hdx hg l1).2
                    have dcells := DomL_append dold dn
                    have hlen : (sub cs off (len * i.size) ++ new).length = (len + n) * i.size := by
                      rw [List.length_append, sub_length l1, c2, Nat.add_mul]
                    obtain ⟨app, ha1, ha2⟩ := append_head ht hu hi hz c1 hnew c2 ty _ len _ μ w r hdy _ h0 h1 (by omega) c4 (fun _ => hbytes)
                    -- a new array
                    have newArr : ∀ es1 : Nat, es1 % 65536 = i.size → (65536 ≤ es1 → elem + 1 = es1 / 65536) → ¬ (len + n ≤ (if g = true then cap + μ.slack id else cap)) → ∃ μ' w', Adv μ h w μ' (h.add (.cells (sub cs off (len * i.size) ++ new) es1)) w' ∧ μ'.dom h.nx ∧
                        (Builtin.append_ argTypes ty (concL μ (.sl id off len cap g :: y :: rest)).toArray).run P w = .ok (conc μ' (.sl h.nx 0 (len + n) (len + n) true)) w' := by
                      intro es1 hes1 hty1 hno
                      obtain ⟨c, hc1, hc2⟩ := run_appendCap (P := P) w (len + n) (if g = true then cap + μ.slack id else cap) elem (by omega)
                      have hadv := adv_grow r elem (size := i.size) (need := len + n) (c := c) dcells hlen hc1 c1 (w.drawn + 1) hes1 hty1
                      refine ⟨_, _, hadv, by simp [Mu.new], ?_⟩
                      rw [ha2, if_neg hno, hc2]
                      simp only [Result.andThen_ok, Builtin.firstCells]
                      rw [((r.drawn (w.drawn + 1)).loadCells (P := P) hdx hg l1).1]
                      simp only [Result.andThen_ok]
                      rw [ha1 _ (r.drawn _)]
                      simp only [Result.andThen_ok, conc, Mu.new_blk, Mu.new_sh, Mu.new_slack, if_true, Nat.zero_add]
                      rw [show len + n + (c - (len + n)) = c from by omega, concL_append]
                      simp
                    split at hn
                    · rename_i hgt
                      subst hgt
                      split at hn
                      · rename_i hes
                        obtain ⟨rfl, rfl⟩ := Prod.mk.inj (Option.some.inj hn)
                        obtain ⟨hes1, hes2⟩ := hes
                        have hnew2 : (if es / 65536 = elem + 1 ∧ off = 0 then es else i.size) % 65536 = i.size := by split <;> omega
                        have hnew3 : 65536 ≤ (if es / 65536 = elem + 1 ∧ off = 0 then es else i.size) → elem + 1 = (if es / 65536 = elem + 1 ∧ off = 0 then es else i.size) / 65536 := by
                          split
                          · rename_i hq; exact fun _ => hq.1.symm
                          · exact fun hq => absurd hq (by omega)
                        by_cases hin : len + n ≤ (if (true : Bool) = true then cap + μ.slack id else cap)
                        · -- in place, beyond what is said
                          simp only [if_true] at hin
                          obtain ⟨co, hco, c0, elem0, fr, rfl, hd0, ⟨hs0, hty0⟩, hcs0, hf0⟩ := r.obj id _ hdx hg
                          have hm1 : (len + n) * i.size ≤ (cap + μ.slack id) * i.size := Nat.mul_le_mul_right _ hin
                          rw [Nat.add_mul, Nat.add_mul] at hm1
                          have hnl : (concL μ new).length = n * i.size := by rw [concL_map]; simp [c2]
                          obtain ⟨w', e1, e2, e3, e4, e5, e6, e7⟩ := run_storeCells_over (P := P) (concL μ new) (μ.sh id + (off + len * i.size)) 0 hco (by rw [hnl]; rw [hes1] at hs0; omega)
                            (fun k hk hk2 => hf0 k (by omega) hk2) (conc_oneCell c3)
                          refine ⟨μ.new h.nx (μ.blk id) (μ.sh id + off) (cap + μ.slack id - (len + n)), w', ?_, by simp [Dom, Mu.new], ?_⟩
                          · have hle2 := Mu.le_new r.not_dom (μ.blk id) (μ.sh id + off) (cap + μ.slack id - (len + n))
                            refine adv_alias r hdx hg _ _ ⟨_, _, _, rfl, DomL.mono hle2.dom _ dcells, ?_, ?_, ?_⟩ e3 e2 e4 e5 e6 e7
                            · refine ⟨?_, fun h65 => ?_⟩
                              rotate_left
                              · by_cases hq : es / 65536 = elem + 1 ∧ off = 0
                                · rw [if_pos hq] at h65 ⊢; exact ⟨(hty0 h65).1, by rw [Mu.new_sh, (hty0 h65).2, hq.2]⟩
                                · rw [if_neg hq] at h65; exact absurd h65 (by omega)
                              rw [Mu.new_sh, Mu.new_slack, over_size, hlen, hnew2]
                              rw [hes1] at hs0
                              have : (cap + μ.slack id - (len + n)) * i.size + (len + n) * i.size = (cap + μ.slack id) * i.size := by rw [← Nat.add_mul]; congr 1; omega
                              rw [Nat.add_mul cap] at this
                              omega
                            · intro j u hu2
                              have hdu := DomL_all.1 dcells u (List.mem_of_getElem? hu2)
                              rw [Mu.new_sh, conc_le hle2 u hdu]
                              by_cases hj : j < len * i.size
                              · rw [List.getElem?_append_left (by rw [sub_length l1]; exact hj)] at hu2
                                rw [over_lt _ _ _ _ (by omega)]
                                rw [sub, List.getElem?_take, if_pos hj, List.getElem?_drop] at hu2
                                have := hcs0 _ _ hu2
                                rw [show μ.sh id + off + j = μ.sh id + (off + j) from by omega]
                                exact this
                              · rw [List.getElem?_append_right (by rw [sub_length l1]; omega), sub_length l1] at hu2
                                have hcu : (concL μ new)[j - len * i.size]? = some (conc μ u) := by rw [concL_map, List.getElem?_map, hu2]; rfl
                                have := over_in (concL μ new) c0 (μ.sh id + (off + len * i.size) + 0) (j - len * i.size) _ hcu (by rw [hnl]; rw [hes1] at hs0; omega)
                                rw [show μ.sh id + off + j = μ.sh id + (off + len * i.size) + 0 + (j - len * i.size) from by omega]
                                exact this
                            · intro k hk hk2
                              rw [Mu.new_sh] at hk
                              rw [over_size] at hk2
                              exact hf0 k (by omega) hk2
                          · rw [ha2, if_pos (by simp only [if_true]; exact hin), ha1 w r]
                            simp only [Result.andThen_ok, add_mul]
                            rw [e1]
                            simp only [Result.andThen_ok, conc, Mu.new_blk, Mu.new_sh, Mu.new_slack, if_true, Nat.add_zero]
                            rw [show len + n + (cap + μ.slack id - (len + n)) = cap + μ.slack id from by omega]
                        · obtain ⟨μ', w', k1, k2, k3⟩ := newArr _ hnew2 hnew3 hin
                          refine ⟨μ', w', ?_, by simp only [Dom]; exact k2, k3⟩
                          have hk := adv_kill k1.rel id
                          refine (k1.trans hk).ext (fun j => ?_) rfl
                          have hne : id ≠ h.nx := by have := (r.lt id hdx).1; omega
                          rw [H.get_add, H.get_put, H.get_put, H.get_add]
                          simp only [H.put]
                          by_cases hj : j = h.nx
                          · simp [hj, hne.symm]
                          · simp [hj]
                      · cases hn
                    · rename_i hgf
                      obtain ⟨rfl, rfl⟩ := Prod.mk.inj (Option.some.inj hn)
                      obtain ⟨μ', w', k1, k2, k3⟩ := newArr _ (tag_mod elem c5) (fun _ => tag_div elem c5) (by rw [if_neg hgf]; exact hout)
                      exact ⟨μ', w', k1, by simp only [Dom]; exact k2, k3⟩
                  · cases hn
              · cases hn
            · cases hn
          · cases hn
        · cases hn
      · cases hn
    · cases hn
  · cases hn
end Go.Arm

/- The abstract machine: equality, interfaces, conversions. -/
namespace Go.Arm
variable {P : Program} {o : Oper} {ρ : Operand → AV} {h : H}

theorem bytesOf_inj {a b : List Nat} (ha : ∀ c ∈ a, c < 256) (hb : ∀ c ∈ b, c < 256) : (bytesOf a == bytesOf b) = (a == b) := by
  have key : ∀ {a b : List Nat}, (∀ c ∈ a, c < 256) → (∀ c ∈ b, c < 256) → a.map Nat.toUInt8 = b.map Nat.toUInt8 → a = b := by
    intro a
    induction a with
    | nil => intro b _ _ e; cases b with
      | nil => rfl
      | cons y b => simp at e
    | cons x a ih => intro b ha hb e; cases b with
      | nil => simp at e
      | cons y b =>
        simp only [List.map_cons, List.cons.injEq] at e
        have hx := ha x (by simp)
        have hy := hb y (by simp)
        have : x = y := by
          have h2 := congrArg UInt8.toNat e.1
          simp at h2
          omega
        rw [this, ih (fun c hc => ha c (by simp [hc])) (fun c hc => hb c (by simp [hc])) e.2]
  rw [Bool.eq_iff_iff, beq_toListBytes, ByteArray.toList_eq, ByteArray.toList_eq]
  simp only [bytesOf, beq_iff_eq]
  constructor
  · intro e
    exact key ha hb (by simpa using e)
  · intro e; rw [e]

/-! ### Equality -/

noncomputable def eqFieldsA (P : Program) (eq : TypeId → AV → AV → Option Bool) (xs ys : List AV) : List Field → Option Bool
  | [] => some true
  | f :: fs =>
    if f.name ≠ "_" then
      match partA P f.type xs f.offset, partA P f.type ys f.offset with
      | some a, some b => match eq f.type a b with
        | some true => eqFieldsA P eq xs ys fs
        | some false => some false
        | none => none
      | _, _ => none
    else eqFieldsA P eq xs ys fs

noncomputable def eqA (P : Program) : Nat → TypeId → AV → AV → Option Bool
  | 0 => fun _ _ _ => none
  | d + 1 => fun t x y =>
    match P.underlying t, x, y with
    | some .bool, .b a, .b b => some (a == b)
    | some (.int _), .i k a, .i k' b => if k = k' then some (a == b) else none
    | some .string, .s a, .s b => some (a == b)
    | some (.pointer _), .pn, .pn => some true
    | some (.pointer _), .pn, .p _ _ => some false
    | some (.pointer _), .p _ _, .pn => some false
    | some (.interface _), .ifn, .ifn => some true
    | some (.interface _), .ifn, .ifc _ _ => some false
    | some (.interface _), .ifc _ _, .ifn => some false
    | some (.interface _), .ifc tx vx, .ifc ty vy => if tx ≠ ty then some false else match P.info? tx with
      | some i => if i.comparable then eqA P d tx vx vy else none
      | none => none
    | some (.struct fields), .agg xs, .agg ys => if P.stoodInHeld t then none else eqFieldsA P (eqA P d) xs ys fields.toList
    | some (.slice _), .sn, .sn => some true
    | some (.slice _), .sn, .sl _ _ _ _ _ => some false
    | some (.slice _), .sl _ _ _ _ _, .sn => some false
    | some (.map _ _), .mn, .mn => some true
    | some (.map _ _), .mn, .m _ => some false
    | some (.map _ _), .m _, .mn => some false
    | some (.func _ _ _), .fnil, .fnil => some true
    | some (.func _ _ _), .fnil, .f _ _ _ => some false
    | some (.func _ _ _), .f _ _ _, .fnil => some false
    | some (.pointer elem), .p a b, .p c e => if a = c then match tsize P elem with
        | some n => if n = 0 then none else some (b == e)
        | none => none
      else none
    | _, _, _ => none

theorem eqFieldsA_run {d : Nat} {eq : TypeId → AV → AV → Option Bool} (μ : Mu) (w : World)
    (heq : ∀ t x y b, eq t x y = some b → Dom μ.dom x → Dom μ.dom y → (Op.equalIn d t (conc μ x) (conc μ y)).run P w = .ok b w) {xs ys : List AV} (dx : DomL μ.dom xs) (dy : DomL μ.dom ys)
    (fs : List Field) : ∀ {b : Bool}, eqFieldsA P eq xs ys fs = some b → (Op.eqFields d (concL μ xs).toArray (concL μ ys).toArray fs).run P w = .ok b w := by
  induction fs with
  | nil => intro b e; obtain rfl := Option.some.inj e; rfl
  | cons f fs ih =>
    intro b e
    simp only [eqFieldsA] at e
    simp only [Op.eqFields]
    split at e
    · rename_i hn
      rw [if_pos hn]
      split at e
      · rename_i u v hu hv
        have pu := partA_run hu μ w
        have pv := partA_run hv μ w
        simp only [Sem.run_bind, pu.1, pv.1, Result.andThen_ok]
        split at e
        · rename_i hq
          rw [heq _ _ _ _ hq (pu.2 _ dx) (pv.2 _ dy)]
          simp only [Result.andThen_ok, Bool.not_true, Bool.false_eq_true, if_false]
          exact ih e
        · rename_i hq
          obtain rfl := Option.some.inj e
          rw [heq _ _ _ _ hq (pu.2 _ dx) (pv.2 _ dy)]
          simp
        · cases e
      · cases e
    · rename_i hn
      rw [if_neg hn]
      exact ih e

set_option maxHeartbeats 1000000 in
theorem eqA_run (μ : Mu) (w : World) : ∀ (d : Nat) (t : TypeId) (x y : AV) (b : Bool), eqA P d t x y = some b → Dom μ.dom x → Dom μ.dom y → ∀ k, (Op.equalIn (d + k) t (conc μ x) (conc μ y)).run P w = .ok b w := by
  intro d
  induction d with
  | zero => intro t x y b e; cases e
  | succ d ih =>
    intro t x y b e dx dy k
    rw [show d + 1 + k = (d + k) + 1 from by omega]
    simp only [eqA] at e
    split at e
    case h_11 fields xs ys hu =>
      split at e
      · cases e
      · rename_i hs
        have hf : P.fieldsOf t = fields := by simp [Program.fieldsOf, hu]
        simp only [conc]
        rw [run_equalIn_struct w (d + k) t _ _ (by rw [hf]; exact hu) (by simpa using hs), hf]
        simp only [Dom] at dx dy
        exact eqFieldsA_run μ w (fun t x y b e dx dy => ih t x y b e dx dy k) dx dy _ e
    case h_10 ms tx vx ty vy hu =>
      split at e
      · rename_i hne
        obtain rfl := Option.some.inj e
        simp [conc, Op.equalIn, underlying, hu, hne]
      · rename_i heq
        have heq : tx = ty := by simpa using heq
        subst heq
        split at e
        · rename_i i hi
          split at e
          · rename_i hcmp
            simp only [Dom] at dx dy
            have := ih _ _ _ _ e dx dy k
            simp [conc, Op.equalIn, underlying, hu, typeInfo, hi, hcmp, this]
          · cases e
        · cases e
    case h_21 elem a b1 c e1 hu =>
      split at e
      · rename_i hac
        subst hac
        split at e
        · rename_i n hn
          split at e
          · cases e
          · rename_i h0
            obtain rfl := Option.some.inj e
            have hbe : ((⟨μ.blk a, μ.sh a + b1, none⟩ : Addr) == ⟨μ.blk a, μ.sh a + e1, none⟩) = (b1 == e1) := by
              rw [Bool.eq_iff_iff, beq_iff_eq, beq_iff_eq]
              constructor
              · intro h
                have := congrArg Addr.off h
                simp only at this
                omega
              · intro h; rw [h]
            simp [conc, Op.equalIn, underlying, hu, sizeOf_run hn, h0, sameAddr, hbe]
        · cases e
      · cases e
    case h_2 hu =>
      split at e
      · rename_i hk
        obtain rfl := Option.some.inj e
        simp [conc, Op.equalIn, underlying, hu, hk]
      · cases e
    case h_3 hu =>
      obtain rfl := Option.some.inj e
      simp only [Dom] at dx dy
      rw [← bytesOf_inj dx dy]
      simp [conc, Op.equalIn, underlying, hu]
    all_goals first
      | cases e; done
      | (rename_i hu
         obtain rfl := Option.some.inj e
         simp [conc, Op.equalIn, underlying, hu])

/-- May two operands be compared, by the model's guard on nil interface values? -/
noncomputable def guardA (P : Program) (t : TypeId) (x y : Operand) (a b : AV) : Bool :=
  match a, b with
  | .ifn, .ifn => (match x with | .const _ => true | _ => false) || (match y with | .const _ => true | _ => false)
  | .agg _, .agg _ => !P.eqGuardType P.depth t
  | _, _ => true

theorem guardA_run {op : BinOp} {t : TypeId} {x y : Operand} {a b : AV} (e : guardA P t x y a b = true) (μ : Mu) (w : World) : (eqGuard op t x y (conc μ a) (conc μ b)).run P w = .ok () w := by
  unfold eqGuard
  generalize (!(op matches .eql | .neq)) = q
  cases q with
  | true => rfl
  | false =>
    simp only [Bool.false_eq_true, if_false]
    cases a with
    | ifn =>
      cases b with
      | ifn =>
        simp only [guardA] at e
        simp only [conc]
        cases x <;> cases y <;> first | rfl | cases e
      | _ => rfl
    | agg l =>
      cases b with
      | agg m =>
        simp only [guardA] at e
        simp [conc, run_program, (by simpa using e : P.eqGuardType P.depth t = false)]
      | _ => rfl
    | _ => rfl

theorem eqA_str {d : Nat} {t : TypeId} {l : List Nat} {y : AV} {b : Bool} (e : eqA P (d + 1) t (.s l) y = some b) : ∃ m, y = .s m ∧ b = (l == m) := by
  simp only [eqA] at e
  split at e <;> first | cases e; done | simp_all
  all_goals (obtain rfl := e; exact ⟨_, rfl, rfl⟩)

theorem eql_run {t : TypeId} {x y : AV} {b : Bool} {d : Nat} (he : eqA P (d + 1) t x y = some b) (hne : ∀ k n, x ≠ .i k n) (hd : d + 1 ≤ 10000) (μ : Mu) (w : World) (d1 : Dom μ.dom x) (d2 : Dom μ.dom y) :
    (binOp .eql t (conc μ x) (conc μ y)).run P w = .ok (.bool b) w ∧ (binOp .neq t (conc μ x) (conc μ y)).run P w = .ok (.bool (!b)) w := by
  have hr : (Op.equal t (conc μ x) (conc μ y)).run P w = .ok b w := by
    have := eqA_run μ w _ _ _ _ _ he d1 d2 (10000 - (d + 1))
    rw [show d + 1 + (10000 - (d + 1)) = 10000 from by omega] at this
    exact this
  cases x with
  | i k n => exact absurd rfl (hne k n)
  | s l =>
    obtain ⟨m, rfl, rfl⟩ := eqA_str he
    simp only [Dom] at d1 d2
    rw [← bytesOf_inj d1 d2]
    constructor <;> simp [conc, binOp, Op.stringOp, beq_toListBytes]
  | _ =>
    simp only [conc] at hr ⊢
    constructor <;> (simp only [binOp, Sem.run_bind, hr]; rfl)

theorem opV_eql {t t' : TypeId} {x y : Operand} (ho : o.op = .binOp .eql t x y t') {b : Bool} (hg : guardA P t x y (ρ x) (ρ y) = true) {d : Nat} (he : eqA P (d + 1) t (ρ x) (ρ y) = some b) (hd : d + 1 ≤ 10000)
    (hne : ∀ k n, ρ x ≠ .i k n) : OpV P o ρ h (.b b) h :=
  opV_pure fun μ w r hdd ρc hc => by
    have e1 := hc x (by simp [ho, Op.operands])
    have e2 := hc y (by simp [ho, Op.operands])
    have d1 := hdd x (by simp [ho, Op.operands])
    have d2 := hdd y (by simp [ho, Op.operands])
    refine ⟨by simp [Dom], ?_⟩
    have hb := (eql_run he hne hd μ w d1 d2).1
    simp only [execOp, ho, e1, e2, Sem.run_bind, guardA_run hg, Result.andThen_ok, hb, conc, Sem.run_pure]

theorem opV_neq {t t' : TypeId} {x y : Operand} (ho : o.op = .binOp .neq t x y t') {b : Bool} (hg : guardA P t x y (ρ x) (ρ y) = true) {d : Nat} (he : eqA P (d + 1) t (ρ x) (ρ y) = some b) (hd : d + 1 ≤ 10000)
    (hne : ∀ k n, ρ x ≠ .i k n) : OpV P o ρ h (.b (!b)) h :=
  opV_pure fun μ w r hdd ρc hc => by
    have e1 := hc x (by simp [ho, Op.operands])
    have e2 := hc y (by simp [ho, Op.operands])
    have d1 := hdd x (by simp [ho, Op.operands])
    have d2 := hdd y (by simp [ho, Op.operands])
    refine ⟨by simp [Dom], ?_⟩
    have hb := (eql_run he hne hd μ w d1 d2).2
    simp only [execOp, ho, e1, e2, Sem.run_bind, guardA_run hg, Result.andThen_ok, hb, conc, Sem.run_pure]
end Go.Arm
