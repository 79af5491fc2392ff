/- An abstract machine that is run by the kernel, proved to be followed by the model: third part. No condition. -/
import Derived.Test.YtmdbnobbecdcoaaGreatDoorArmB
import Derived.ProofKit
set_option linter.unusedVariables false
set_option linter.unusedSimpArgs false

/- The abstract machine: one operation, as a function. -/
namespace Go.Arm
variable {P : Program}

noncomputable def binA (P : Program) (op : BinOp) (t : TypeId) (x y : Operand) (a b : AV) : Option AV :=
  match a, b with
  | .i k m, .i k' n =>
    if isShift op then (match shiftA op k m n with
      | some c => some (.i k c)
      | none => none)
    else if k = k' then (match cmpA op m n with
      | some c => some (.b c)
      | none => match arithA op k m n with
        | some c => some (.i k c)
        | none => none)
    else none
  | .i _ _, _ => none
  | a, b => match op with
    | .eql => if guardA P t x y a b then (match eqA P 50 t a b with
      | some c => some (.b c)
      | none => none) else none
    | .neq => if guardA P t x y a b then (match eqA P 50 t a b with
      | some c => some (.b (!c))
      | none => none) else none
    | op => match a, b with
      | .s l, .s m => if l.length + m.length < 2 ^ 62 then strOpA op l m else none
      | _, _ => none

theorem binA_sound {o : Oper} {ρ : Operand → AV} {h : H} {op : BinOp} {t t' : TypeId} {x y : Operand} (ho : o.op = .binOp op t x y t') {v : AV} (e : binA P op t x y (ρ x) (ρ y) = some v) : OpV P o ρ h v h := by
  unfold binA at e
  split at e
  · rename_i k m k' n h1 h2
    split at e
    · split at e
      · rename_i c hc
        obtain rfl := Option.some.inj e
        exact opV_shift ho h1 h2 hc
      · cases e
    · split at e
      · rename_i hk
        subst hk
        split at e
        · rename_i c hc
          obtain rfl := Option.some.inj e
          exact opV_cmp ho h1 h2 hc
        · split at e
          · rename_i c hc
            obtain rfl := Option.some.inj e
            exact opV_arith ho h1 h2 hc
          · cases e
      · cases e
  · cases e
  · rename_i hn1 hn2
    have hne : ∀ k n, ρ x ≠ .i k n := fun k n c => by first | exact hn1 k n c | exact hn2 k n c
    split at e
    · split at e
      · rename_i hg
        split at e
        · rename_i c hc
          obtain rfl := Option.some.inj e
          exact opV_eql ho hg (d := 49) hc (by omega) hne
        · cases e
      · cases e
    · split at e
      · rename_i hg
        split at e
        · rename_i c hc
          obtain rfl := Option.some.inj e
          exact opV_neq ho hg (d := 49) hc (by omega) hne
        · cases e
      · cases e
    · split at e
      · rename_i l m hx hy
        split at e
        · rename_i hs
          exact opV_strOp ho hx hy e hs
        · cases e
      · cases e

noncomputable def bltA (P : Program) (b : Builtin) (ts : Array TypeId) (args : List AV) (h : H) : Option (AV × H) :=
  match b, args with
  | .len, x :: _ => match ts[0]? with
    | some t => match lenA P h t x with
      | some n => some (.i .i64 n, h)
      | none => none
    | none => none
  | .cap, x :: _ => match ts[0]? with
    | some t => match capA P t x with
      | some n => some (.i .i64 n, h)
      | none => none
    | none => none
  | .copy, x :: y :: _ => match ts[0]? with
    | some t => match copyA P h t x y with
      | some (n, h') => some (.i .i64 n, h')
      | none => none
    | none => none
  | .append, x :: y :: _ => match ts[0]? with
    | some t => appendA P h t ts[1]? x y
    | none => none
  | .clear, x :: _ => match ts[0]? with
    | some t => match clearA P h t x with
      | some h' => some (.tup [], h')
      | none => none
    | none => none
  | .max, .i k x :: l => match maxFrom k x l with
    | some n => some (.i k n, h)
    | none => none
  | .min, .i k x :: l => match minFrom k x l with
    | some n => some (.i k n, h)
    | none => none
  | b, args => unsafeA P b ts args h

theorem bltA_sound {b : Builtin} {ts : Array TypeId} {args : List AV} {h h' : H} {v : AV} (e : bltA P b ts args h = some (v, h')) : OpB P b ts args h v h' := by
  unfold bltA at e
  split at e
  · split at e
    · rename_i t ht
      split at e
      · rename_i n hn
        obtain ⟨rfl, rfl⟩ := Prod.mk.inj (Option.some.inj e)
        exact opB_len ht hn _
      · cases e
    · cases e
  · split at e
    · rename_i t ht
      split at e
      · rename_i n hn
        obtain ⟨rfl, rfl⟩ := Prod.mk.inj (Option.some.inj e)
        exact opB_cap ht hn _
      · cases e
    · cases e
  · split at e
    · rename_i t ht
      split at e
      · rename_i n h1 hn
        obtain ⟨rfl, rfl⟩ := Prod.mk.inj (Option.some.inj e)
        exact opB_copy ht hn _
      · cases e
    · cases e
  · split at e
    · rename_i t ht
      exact opB_append ht e _
    · cases e
  · split at e
    · rename_i t ht
      split at e
      · rename_i h1 hn
        obtain ⟨rfl, rfl⟩ := Prod.mk.inj (Option.some.inj e)
        exact opB_clear ht hn _
      · cases e
    · cases e
  · split at e
    · rename_i n hn
      obtain ⟨rfl, rfl⟩ := Prod.mk.inj (Option.some.inj e)
      exact opB_max hn
    · cases e
  · split at e
    · rename_i n hn
      obtain ⟨rfl, rfl⟩ := Prod.mk.inj (Option.some.inj e)
      exact opB_min hn
    · cases e
  · exact unsafeA_sound e

noncomputable def entryA (h : H) (it : AV) : Option AV :=
  match it with
  | .p r 0 => match h.get r with
    | some (.mapIter (some m) _ seen last) => match seen.getLast? with
      | some stamp => match h.get m with
        | some (.map es clock) => if clock = last then (match es.find? (fun e => e.born == stamp) with
          | some e => some (.tup [e.key, e.val])
          | none => none) else none
        | _ => none
      | none => none
    | _ => none
  | _ => none

theorem opV_entry {o : Oper} {ρ : Operand → AV} {h : H} {x : Operand} (ho : o.op = .entry x) {v : AV} (hv : entryA h (ρ x) = some v) : OpV P o ρ h v h :=
  opV_pure fun μ w r hd ρc hc => by
    have e := hc x (by simp [ho, Op.operands])
    have d := hd x (by simp [ho, Op.operands])
    unfold entryA at hv
    split at hv
    · rename_i it rr hx
      rw [hx] at e d
      simp only [Dom] at d
      split at hv
      · rename_i m since seen last hg
        obtain ⟨h1, h2, h3⟩ := r.iter d hg
        have dm := h2 m rfl
        split at hv
        · rename_i stamp hst
          split at hv
          · rename_i es clock hgm
            obtain ⟨hm, hdm⟩ := r.map dm hgm
            split at hv
            · rename_i hcl
              split at hv
              · rename_i en hf
                obtain rfl := Option.some.inj hv
                have hen := List.mem_of_find?_eq_some hf
                refine ⟨by simp [Dom, DomL, hdm en hen], ?_⟩
                have hback : seen.toArray.back? = some stamp := by simpa using hst
                have hfind : (es.map (concE μ)).toArray.find? (fun e => e.born == stamp) = some (concE μ en) := by
                  rw [List.find?_toArray, List.find?_map]
                  have : ((fun e : MapEntry => e.born == stamp) ∘ concE μ) = fun e => e.born == stamp := rfl
                  rw [this, hf]
                  rfl
                have hrun : (Instr.entry (ρc x)).run P w = .ok (.tuple #[conc μ en.key, conc μ en.val]) w := by
                  simp only [Instr.entry, e, conc, h3, Nat.zero_add, Sem.run_bind, run_getObj h1 (by simp), Result.andThen_ok, Option.map_some, hback, run_getObj hm (by simp)]
                  subst hcl
                  simp [hfind, concE]
                simp [execOp, ho, hrun, conc, concL]
              · cases hv
            · cases hv
          · cases hv
        · cases hv
      · cases hv
    · cases hv

def isIface : TypeDesc → Bool
  | .interface _ => true
  | _ => false

/-- Operations that call nobody. -/
noncomputable def opA (P : Program) (o : Oper) (ρ : Operand → AV) (h : H) : Option (AV × H) :=
  match o.op with
  | .move x => some (ρ x, h)
  | .assign x => some (ρ x, h)
  | .pick c a b => match ρ c with
    | .b t => some (if t then ρ a else ρ b, h)
    | _ => none
  | .alloc t => match zeroA P t with
    | some l => some (.p h.nx 0, h.add (.cells l ((t + 1) * 65536)))
    | none => none
  | .box _ x => some (.p h.nx 0, h.add (.cells (acells (ρ x)) 0))
  | .build t ps => match buildA P t (ps.toList.map fun x => (x.1, ρ x.2)) with
    | some l => some (.agg l, h)
    | none => none
  | .buildSlice t n ps => match bsA P t n (ps.toList.map fun x => (x.1, ρ x.2)) with
    | some l => some (.sl h.nx 0 n n false, h.add (.cells l 0))
    | none => none
  | .load t x => match loadA P h t (ρ x) with
    | some v => some (v, h)
    | none => none
  | .store t x y => match storeA P h t (ρ x) (ρ y) with
    | some h' => some (.tup [], h')
    | none => none
  | .nilCheck x => if nilOk (ρ x) then some (ρ x, h) else none
  | .binOp op t x y _ => match binA P op t x y (ρ x) (ρ y) with
    | some v => some (v, h)
    | none => none
  | .unOp op _ x => match unaryA op (ρ x) with
    | some v => some (v, h)
    | none => none
  | .fieldAddr s x n => match fieldAddrA P s (ρ x) n with
    | some v => some (v, h)
    | none => none
  | .indexAddr t x i => match indexAddrA P t (ρ x) (ρ i) with
    | some v => some (v, h)
    | none => none
  | .field t x n => match fieldA P t (ρ x) n with
    | some v => some (v, h)
    | none => none
  | .index t x i => match indexA P t (ρ x) (ρ i) with
    | some v => some (v, h)
    | none => none
  | .slice t x lo hi mx => sliceA P h t (ρ x) (lo.map ρ) (hi.map ρ) (mx.map ρ)
  | .call c => match c.callee with
    | .builtin b => bltA P b c.argTypes (c.args.toList.map ρ) h
    | _ => none
  | .makeSlice t x y => match makeSliceA P t (ρ x) (ρ y) with
    | some (l, n, c) => some (.sl h.nx 0 n c false, h.add (.cells l 0))
    | none => none
  | .makeInterface t x => match P.underlying t with
    | some d => if isIface d then none else some (.ifc t (ρ x), h)
    | none => none
  | .makeFunc fn first cap => if plainFn fn then some (.f fn (first.toList.map ρ) (cap.toList.map ρ), h) else none
  | .extract x n => match ρ x with
    | .tup l => match l[n]? with
      | some v => some (v, h)
      | none => none
    | _ => none
  | .typeAssert x _ a ok => match assertA P (ρ x) a ok with
    | some v => some (v, h)
    | none => none
  | .convert src dst x => match convNewA P h src dst (ρ x) with
    | some (n, cs, es) => some (.sl h.nx 0 n n true, h.add (.cells cs es))
    | none => match convA P h src dst (ρ x) with
      | some v => some (v, h)
      | none => match ptrConvA P h src dst (ρ x) with
        | some v => some (v, h)
        | none => none
  | .makeMap t x => match x with
    | none => some (.m h.nx, h.add (.map [] 0))
    | some x => match P.underlying t with
      | some (.map _ _) => match ρ x with
        | .i _ _ => some (.m h.nx, h.add (.map [] 0))
        | _ => none
      | _ => none
  | .lookup t x k ok => match lookupA P h t (ρ x) (ρ k) ok with
    | some v => some (v, h)
    | none => none
  | .mapUpdate t m k x => match mapUpdateA P h t (ρ m) (ρ k) (ρ x) with
    | some h' => some (.tup [], h')
    | none => none
  | .insert t m k x => match mapUpdateA P h t (ρ m) (ρ k) (ρ x) with
    | some h' => some (.tup [], h')
    | none => none
  | .range t x => match rangeA P h t (ρ x) with
    | some ob => some (.p h.nx 0, h.add ob)
    | none => none
  | .next x s => if s then none else nextA h (ρ x)
  | .entry x => match entryA h (ρ x) with
    | some v => some (v, h)
    | none => none
  | _ => none

theorem opA_sound {o : Oper} {ρ : Operand → AV} {h h' : H} {v : AV} (e : opA P o ρ h = some (v, h')) : OpV P o ρ h v h' ∧ ∀ c, o.op ≠ .defer c := by
  unfold opA at e
  split at e <;> rename_i ho
  all_goals first | (cases e; done) | refine ⟨?_, by rw [ho]; simp⟩
  · obtain ⟨rfl, rfl⟩ := Prod.mk.inj (Option.some.inj e); exact opV_move ho
  · obtain ⟨rfl, rfl⟩ := Prod.mk.inj (Option.some.inj e); exact opV_assign ho
  · split at e
    · rename_i t ht; obtain ⟨rfl, rfl⟩ := Prod.mk.inj (Option.some.inj e); exact opV_pick ho ht
    · cases e
  · split at e
    · rename_i l hl; obtain ⟨rfl, rfl⟩ := Prod.mk.inj (Option.some.inj e); exact opV_alloc ho hl
    · cases e
  · obtain ⟨rfl, rfl⟩ := Prod.mk.inj (Option.some.inj e); exact opV_box ho
  · split at e
    · rename_i l hl; obtain ⟨rfl, rfl⟩ := Prod.mk.inj (Option.some.inj e); exact opV_build ho hl
    · cases e
  · split at e
    · rename_i l hl; obtain ⟨rfl, rfl⟩ := Prod.mk.inj (Option.some.inj e); exact opV_buildSlice ho hl
    · cases e
  · split at e
    · rename_i l hl; obtain ⟨rfl, rfl⟩ := Prod.mk.inj (Option.some.inj e); exact opV_load ho hl
    · cases e
  · split at e
    · rename_i l hl; obtain ⟨rfl, rfl⟩ := Prod.mk.inj (Option.some.inj e); exact opV_store ho hl
    · cases e
  · split at e
    · rename_i hl; obtain ⟨rfl, rfl⟩ := Prod.mk.inj (Option.some.inj e); exact opV_nilCheck ho hl
    · cases e
  · split at e
    · rename_i l hl; obtain ⟨rfl, rfl⟩ := Prod.mk.inj (Option.some.inj e); exact binA_sound ho hl
    · cases e
  · split at e
    · rename_i l hl; obtain ⟨rfl, rfl⟩ := Prod.mk.inj (Option.some.inj e); exact opV_unary ho hl
    · cases e
  · split at e
    · rename_i l hl; obtain ⟨rfl, rfl⟩ := Prod.mk.inj (Option.some.inj e); exact opV_fieldAddr ho hl
    · cases e
  · split at e
    · rename_i l hl; obtain ⟨rfl, rfl⟩ := Prod.mk.inj (Option.some.inj e); exact opV_indexAddr ho hl
    · cases e
  · split at e
    · rename_i l hl; obtain ⟨rfl, rfl⟩ := Prod.mk.inj (Option.some.inj e); exact opV_field ho hl
    · cases e
  · split at e
    · rename_i l hl; obtain ⟨rfl, rfl⟩ := Prod.mk.inj (Option.some.inj e); exact opV_index ho hl
    · cases e
  · exact opV_slice ho e
  · rename_i c
    split at e
    · rename_i b hb
      obtain ⟨callee, args, ts⟩ := c
      subst hb
      exact opV_builtin ho (bltA_sound e)
    · cases e
  · split at e
    · rename_i l n c hl; obtain ⟨rfl, rfl⟩ := Prod.mk.inj (Option.some.inj e); exact opV_makeSlice ho hl
    · cases e
  · split at e
    · rename_i d hd
      split at e
      · cases e
      · rename_i hi
        obtain ⟨rfl, rfl⟩ := Prod.mk.inj (Option.some.inj e)
        exact opV_makeInterface ho hd (by cases d <;> first | rfl | exact absurd rfl hi)
    · cases e
  · split at e
    · rename_i hp; obtain ⟨rfl, rfl⟩ := Prod.mk.inj (Option.some.inj e); exact opV_makeFunc ho hp
    · cases e
  · split at e
    · rename_i l hl
      split at e
      · rename_i u hu; obtain ⟨rfl, rfl⟩ := Prod.mk.inj (Option.some.inj e); exact opV_extract ho hl hu
      · cases e
    · cases e
  · split at e
    · rename_i l hl; obtain ⟨rfl, rfl⟩ := Prod.mk.inj (Option.some.inj e); exact opV_assert ho hl
    · cases e
  · split at e
    · rename_i n cs es hl; obtain ⟨rfl, rfl⟩ := Prod.mk.inj (Option.some.inj e); exact opV_convNew ho hl
    · split at e
      · rename_i l hl; obtain ⟨rfl, rfl⟩ := Prod.mk.inj (Option.some.inj e); exact opV_convert ho hl
      · split at e
        · rename_i l hl; obtain ⟨rfl, rfl⟩ := Prod.mk.inj (Option.some.inj e); exact opV_ptrConv ho hl
        · cases e
  · split at e
    · obtain ⟨rfl, rfl⟩ := Prod.mk.inj (Option.some.inj e); exact opV_makeMap ho
    · split at e
      · rename_i k el hu
        split at e
        · rename_i ik n hx; obtain ⟨rfl, rfl⟩ := Prod.mk.inj (Option.some.inj e); exact opV_makeMapN ho hu hx
        · cases e
      · cases e
  · split at e
    · rename_i l hl; obtain ⟨rfl, rfl⟩ := Prod.mk.inj (Option.some.inj e); exact opV_lookup ho hl
    · cases e
  · split at e
    · rename_i l hl; obtain ⟨rfl, rfl⟩ := Prod.mk.inj (Option.some.inj e); exact opV_mapUpdate (.inl ho) hl
    · cases e
  · split at e
    · rename_i l hl; obtain ⟨rfl, rfl⟩ := Prod.mk.inj (Option.some.inj e); exact opV_mapUpdate (.inr ho) hl
    · cases e
  · split at e
    · rename_i l hl; obtain ⟨rfl, rfl⟩ := Prod.mk.inj (Option.some.inj e); exact opV_range ho hl
    · cases e
  · rename_i x s
    cases s with
    | true => simp at e
    | false => exact opV_next ho (by simpa using e)
  · split at e
    · rename_i l hl; obtain ⟨rfl, rfl⟩ := Prod.mk.inj (Option.some.inj e); exact opV_entry ho hl
    · cases e

/-! ### Which old blocks an operation changes -/

def idsOf : AV → List Nat
  | .p id _ => [id]
  | .sl id _ _ _ _ => [id]
  | .m id => [id]
  | _ => []

def firstIds : List AV → List Nat
  | x :: _ => idsOf x
  | [] => []

def bW (b : Builtin) (args : List AV) : List Nat :=
  match b with
  | .append => firstIds args
  | .copy => firstIds args
  | .clear => firstIds args
  | .unsafeString => firstIds args
  | _ => []

def wA (o : Oper) (ρ : Operand → AV) : List Nat :=
  match o.op with
  | .store _ x _ => idsOf (ρ x)
  | .mapUpdate _ m _ _ => idsOf (ρ m)
  | .insert _ m _ _ => idsOf (ρ m)
  | .next x _ => idsOf (ρ x)
  | .call c => match c.callee with
    | .builtin b => bW b (c.args.toList.map ρ)
    | _ => []
  | _ => []

/-- Nothing old is changed but what is told. -/
def Keep (w : List Nat) (h h' : H) : Prop := h.nx ≤ h'.nx ∧ ∀ id, id < h.nx → id ∉ w → h'.get id = h.get id

theorem Keep.refl (w : List Nat) (h : H) : Keep w h h := ⟨Nat.le_refl _, fun _ _ _ => rfl⟩
theorem Keep.add (w : List Nat) (h : H) (o : AObj) : Keep w h (h.add o) := ⟨Nat.le_succ _, fun id hid _ => by rw [H.get_add, if_neg (by omega)]⟩
theorem Keep.skip (w : List Nat) (h : H) : Keep w h h.skip := ⟨Nat.le_succ _, fun _ _ _ => rfl⟩
theorem Keep.put {w : List Nat} {k : Nat} (hk : k ∈ w) (h : H) (o : Option AObj) : Keep w h (h.put k o) := ⟨Nat.le_refl _, fun id _ hw => by rw [H.get_put, if_neg (fun (e : id = k) => hw (by rw [e]; exact hk))]⟩
theorem Keep.trans {w : List Nat} {h h1 h2 : H} (a : Keep w h h1) (b : Keep w h1 h2) : Keep w h h2 :=
  ⟨Nat.le_trans a.1 b.1, fun id hid hw => (b.2 id (Nat.lt_of_lt_of_le hid a.1) hw).trans (a.2 id hid hw)⟩

theorem storeA_keep {h h' : H} {t : TypeId} {a v : AV} (e : storeA P h t a v = some h') : Keep (idsOf a) h h' := by
  unfold storeA at e
  repeat' (split at e)
  all_goals first
    | (obtain rfl := Option.some.inj e; first | exact Keep.put (by simp [idsOf]) _ _ | exact Keep.refl _ _)
    | cases e

theorem copyA_keep {h h' : H} {t : TypeId} {a v : AV} {n : Nat} (e : copyA P h t a v = some (n, h')) : Keep (idsOf a) h h' := by
  unfold copyA at e
  repeat' (split at e)
  all_goals first
    | (obtain ⟨_, rfl⟩ := Prod.mk.inj (Option.some.inj e); first | exact Keep.put (by simp [idsOf]) _ _ | exact Keep.refl _ _)
    | cases e

theorem mapUpdateA_keep {h h' : H} {t : TypeId} {m k v : AV} (e : mapUpdateA P h t m k v = some h') : Keep (idsOf m) h h' := by
  unfold mapUpdateA at e
  repeat' (split at e)
  all_goals first
    | (obtain rfl := Option.some.inj e; first | exact Keep.put (by simp [idsOf]) _ _ | exact Keep.refl _ _)
    | cases e

theorem clearA_keep {h h' : H} {t : TypeId} {x : AV} (e : clearA P h t x = some h') : Keep (idsOf x) h h' := by
  unfold clearA at e
  repeat' (split at e)
  all_goals first
    | (obtain rfl := Option.some.inj e; first | exact Keep.put (by simp [idsOf]) _ _ | exact Keep.refl _ _)
    | cases e

theorem nextA_keep {h h' : H} {x v : AV} (e : nextA h x = some (v, h')) : Keep (idsOf x) h h' := by
  unfold nextA at e
  repeat' (split at e)
  all_goals first
    | (obtain ⟨_, rfl⟩ := Prod.mk.inj (Option.some.inj e); first | exact Keep.put (by simp [idsOf]) _ _ | exact Keep.refl _ _)
    | cases e

theorem sliceA_keep {h h' : H} {t : TypeId} {x v : AV} {lo hi mx : Option AV} (e : sliceA P h t x lo hi mx = some (v, h')) : Keep [] h h' := by
  unfold sliceA at e
  repeat' (split at e)
  all_goals first
    | (obtain ⟨_, rfl⟩ := Prod.mk.inj (Option.some.inj e); first | exact Keep.refl _ _ | exact Keep.skip _ _)
    | cases e

theorem appendA_keep {h h' : H} {t : TypeId} {xt : Option TypeId} {s x v : AV} (e : appendA P h t xt s x = some (v, h')) : Keep (idsOf s) h h' := by
  unfold appendA at e
  repeat' (split at e)
  all_goals first
    | (obtain ⟨_, rfl⟩ := Prod.mk.inj (Option.some.inj e)
       first
        | exact Keep.put (by simp [idsOf]) _ _
        | exact Keep.refl _ _
        | exact Keep.add _ _ _
        | exact (Keep.put (by simp [idsOf]) _ _).trans (Keep.add _ _ _))
    | cases e

theorem bltA_keep {b : Builtin} {ts : Array TypeId} {args : List AV} {h h' : H} {v : AV} (e : bltA P b ts args h = some (v, h')) :
    Keep (bW b args) h h' := by
  unfold bltA at e
  split at e
  · split at e
    · split at e
      · obtain ⟨_, rfl⟩ := Prod.mk.inj (Option.some.inj e); exact Keep.refl _ _
      · cases e
    · cases e
  · split at e
    · split at e
      · obtain ⟨_, rfl⟩ := Prod.mk.inj (Option.some.inj e); exact Keep.refl _ _
      · cases e
    · cases e
  · split at e
    · split at e
      · rename_i n h1 hn
        obtain ⟨_, rfl⟩ := Prod.mk.inj (Option.some.inj e)
        exact copyA_keep hn
      · cases e
    · cases e
  · split at e
    · exact appendA_keep e
    · cases e
  · split at e
    · split at e
      · rename_i h1 hn
        obtain ⟨_, rfl⟩ := Prod.mk.inj (Option.some.inj e)
        exact clearA_keep hn
      · cases e
    · cases e
  · split at e
    · obtain ⟨_, rfl⟩ := Prod.mk.inj (Option.some.inj e); exact Keep.refl _ _
    · cases e
  · split at e
    · obtain ⟨_, rfl⟩ := Prod.mk.inj (Option.some.inj e); exact Keep.refl _ _
    · cases e
  · rename_i b args _ _ _ _ _ _ _
    unfold unsafeA at e
    split at e
    · obtain ⟨_, rfl⟩ := Prod.mk.inj (Option.some.inj e); exact Keep.refl _ _
    · split at e
      · cases e
      · obtain ⟨_, rfl⟩ := Prod.mk.inj (Option.some.inj e); exact Keep.refl _ _
    · repeat' (split at e)
      all_goals first
        | (cases e; done)
        | (obtain ⟨_, rfl⟩ := Prod.mk.inj (Option.some.inj e); first | exact Keep.refl _ _ | exact Keep.put (by simp [bW, firstIds, idsOf]) _ _)
    · cases e

theorem opA_keep {o : Oper} {ρ : Operand → AV} {h h' : H} {v : AV} (e : opA P o ρ h = some (v, h')) : Keep (wA o ρ) h h' := by
  unfold opA at e
  split at e <;> rename_i ho
  case h_9 => split at e
              · rename_i l hl; obtain ⟨_, rfl⟩ := Prod.mk.inj (Option.some.inj e); simp only [wA, ho]; exact storeA_keep hl
              · cases e
  case h_17 => simp only [wA, ho]; exact sliceA_keep e
  case h_18 c => split at e
                 · rename_i b hb
                   simp only [wA, ho, hb]
                   exact bltA_keep e
                 · cases e
  all_goals try (repeat' (split at e))
  all_goals first
    | (obtain ⟨_, rfl⟩ := Prod.mk.inj (Option.some.inj e); first | exact Keep.refl _ _ | exact Keep.add _ _ _)
    | cases e; done
    | (rename_i l hl; obtain ⟨_, rfl⟩ := Prod.mk.inj (Option.some.inj e); simp only [wA, ho]; exact mapUpdateA_keep hl)
    | (simp only [wA, ho]; exact nextA_keep e)
end Go.Arm

/- The abstract machine: forcing, and one operation of whatever kind, for the kernel to run. -/
namespace Go.Arm
variable {P : Program}

/-! ### Forcing: all of these are 'k x' -/

section
variable {R : Type}

noncomputable def fN (n : Nat) (k : Nat → R) : R := Nat.rec (motive := fun _ => R) (k 0) (fun m _ => k (Nat.succ m)) n
theorem fN_eq (n : Nat) (k : Nat → R) : fN n k = k n := by cases n <;> rfl

noncomputable def fI (n : Int) (k : Int → R) : R := Int.rec (motive := fun _ => R) (fun m => fN m fun m => k (.ofNat m)) (fun m => fN m fun m => k (.negSucc m)) n
theorem fI_eq (n : Int) (k : Int → R) : fI n k = k n := by
  cases n with
  | ofNat m => exact fN_eq m fun m => k (.ofNat m)
  | negSucc m => exact fN_eq m fun m => k (.negSucc m)

noncomputable def fLN (l : List Nat) : (List Nat → R) → R := List.rec (motive := fun _ => (List Nat → R) → R) (fun k => k []) (fun x _ ih k => fN x fun x => ih fun l => k (x :: l)) l
theorem fLN_eq (l : List Nat) : ∀ k : List Nat → R, fLN l k = k l := by
  induction l with
  | nil => intro k; rfl
  | cons x l ih =>
    intro k
    show (fN x fun x => fLN l fun l => k (x :: l)) = _
    rw [fN_eq, ih]

/-- A value's head alone. -/
noncomputable def wV (v : AV) (k : AV → R) : R :=
  AV.casesOn (motive_1 := fun _ => R) v (fun x => k (.b x)) (fun a b => k (.i a b)) (fun a => k (.s a)) (fun a b => k (.p a b)) (k .pn) (fun a b c d e => k (.sl a b c d e)) (k .sn) (fun a => k (.m a)) (k .mn)
    (fun a b c => k (.f a b c)) (k .fnil) (fun a b => k (.ifc a b)) (k .ifn) (fun a => k (.agg a)) (fun a => k (.tup a))
theorem wV_eq (v : AV) (k : AV → R) : wV v k = k v := by cases v <;> rfl

noncomputable def wVL (l : List AV) : (List AV → R) → R := List.rec (motive := fun _ => (List AV → R) → R) (fun k => k []) (fun x _ ih k => wV x fun x => ih fun l => k (x :: l)) l
theorem wVL_eq (l : List AV) : ∀ k : List AV → R, wVL l k = k l := by
  induction l with
  | nil => intro k; rfl
  | cons x l ih =>
    intro k
    show (wV x fun x => wVL l fun l => k (x :: l)) = _
    rw [wV_eq, ih]

/-- A whole value. -/
noncomputable def fV (v : AV) : (AV → R) → R :=
  AV.rec (motive_1 := fun _ => (AV → R) → R) (motive_2 := fun _ => (List AV → R) → R)
    (fun x k => Bool.rec (motive := fun _ => R) (k (.b false)) (k (.b true)) x)
    (fun a n k => fI n fun n => k (.i a n))
    (fun l k => fLN l fun l => k (.s l))
    (fun a b k => fN a fun a => fN b fun b => k (.p a b))
    (fun k => k .pn)
    (fun a b c d e k => fN a fun a => fN b fun b => fN c fun c => fN d fun d => Bool.rec (motive := fun _ => R) (k (.sl a b c d false)) (k (.sl a b c d true)) e)
    (fun k => k .sn)
    (fun a k => fN a fun a => k (.m a))
    (fun k => k .mn)
    (fun a _ _ ih1 ih2 k => ih1 fun b => ih2 fun c => k (.f a b c))
    (fun k => k .fnil)
    (fun a _ ih k => ih fun v => k (.ifc a v))
    (fun k => k .ifn)
    (fun _ ih k => ih fun l => k (.agg l))
    (fun _ ih k => ih fun l => k (.tup l))
    (fun k => k [])
    (fun _ _ ih1 ih2 k => ih1 fun v => ih2 fun l => k (v :: l)) v

noncomputable def fVL (l : List AV) : (List AV → R) → R := List.rec (motive := fun _ => (List AV → R) → R) (fun k => k []) (fun x _ ih k => fV x fun x => ih fun l => k (x :: l)) l

theorem fV_eq (v : AV) : ∀ k : AV → R, fV v k = k v := by
  refine AV.rec (motive_1 := fun v => ∀ k : AV → R, fV v k = k v) (motive_2 := fun l => ∀ k : List AV → R,
    AV.rec_1 (motive_1 := fun _ => (AV → R) → R) (motive_2 := fun _ => (List AV → R) → R)
    (fun x k => Bool.rec (motive := fun _ => R) (k (.b false)) (k (.b true)) x)
    (fun a n k => fI n fun n => k (.i a n))
    (fun l k => fLN l fun l => k (.s l))
    (fun a b k => fN a fun a => fN b fun b => k (.p a b))
    (fun k => k .pn)
    (fun a b c d e k => fN a fun a => fN b fun b => fN c fun c => fN d fun d => Bool.rec (motive := fun _ => R) (k (.sl a b c d false)) (k (.sl a b c d true)) e)
    (fun k => k .sn)
    (fun a k => fN a fun a => k (.m a))
    (fun k => k .mn)
    (fun a _ _ ih1 ih2 k => ih1 fun b => ih2 fun c => k (.f a b c))
    (fun k => k .fnil)
    (fun a _ ih k => ih fun v => k (.ifc a v))
    (fun k => k .ifn)
    (fun _ ih k => ih fun l => k (.agg l))
    (fun _ ih k => ih fun l => k (.tup l))
    (fun k => k [])
    (fun _ _ ih1 ih2 k => ih1 fun v => ih2 fun l => k (v :: l)) l k = k l) ?_ ?_ ?_ ?_ ?_ ?_ ?_ ?_ ?_ ?_ ?_ ?_ ?_ ?_ ?_ ?_ ?_ v
  · intro x k; cases x <;> rfl
  · intro a n k; exact fI_eq n fun n => k (.i a n)
  · intro l k; exact fLN_eq l fun l => k (.s l)
  · intro a b k; show (fN a fun a => fN b fun b => k (.p a b)) = _; rw [fN_eq, fN_eq]
  · intro k; rfl
  · intro a b c d e k
    show (fN a fun a => fN b fun b => fN c fun c => fN d fun d => Bool.rec (motive := fun _ => R) (k (.sl a b c d false)) (k (.sl a b c d true)) e) = _
    rw [fN_eq, fN_eq, fN_eq, fN_eq]
    cases e <;> rfl
  · intro k; rfl
  · intro a k; exact fN_eq a fun a => k (.m a)
  · intro k; rfl
  · intro a b c ih1 ih2 k; exact (ih1 _).trans (ih2 _)
  · intro k; rfl
  · intro a v ih k; exact ih _
  · intro k; rfl
  · intro l ih k; exact ih _
  · intro l ih k; exact ih _
  · intro k; rfl
  · intro v l ih1 ih2 k; exact (ih1 _).trans (ih2 _)

theorem fVL_eq (l : List AV) : ∀ k : List AV → R, fVL l k = k l := by
  induction l with
  | nil => intro k; rfl
  | cons x l ih =>
    intro k
    show (fV x fun x => fVL l fun l => k (x :: l)) = _
    rw [fV_eq, ih]

noncomputable def fE (l : List AEnt) : (List AEnt → R) → R :=
  List.rec (motive := fun _ => (List AEnt → R) → R) (fun k => k []) (fun e _ ih k => AEnt.rec (motive := fun _ => R) (fun a b c => fV a fun a => fV b fun b => fN c fun c => ih fun l => k (⟨a, b, c⟩ :: l)) e) l
theorem fE_eq (l : List AEnt) : ∀ k : List AEnt → R, fE l k = k l := by
  induction l with
  | nil => intro k; rfl
  | cons e l ih =>
    intro k
    obtain ⟨a, b, c⟩ := e
    show (fV a fun a => fV b fun b => fN c fun c => fE l fun l => k (⟨a, b, c⟩ :: l)) = _
    rw [fV_eq, fV_eq, fN_eq, ih]

noncomputable def fO (o : AObj) (k : AObj → R) : R :=
  AObj.rec (motive := fun _ => R) (fun cs es => fVL cs fun cs => fN es fun es => k (.cells cs es)) (fun es c => fE es fun es => fN c fun c => k (.map es c))
    (fun m a l c => fLN l fun l => k (.mapIter m a l c)) (fun a b c d e f g h i => k (.loop a b c d e f g h i)) (fun ds => k (.deferred ds)) o
theorem fO_eq (o : AObj) (k : AObj → R) : fO o k = k o := by
  cases o with
  | cells cs es => show (fVL cs fun cs => fN es fun es => k (.cells cs es)) = _; rw [fVL_eq, fN_eq]
  | map es c => show (fE es fun es => fN c fun c => k (.map es c)) = _; rw [fE_eq, fN_eq]
  | mapIter m a l c => exact fLN_eq l fun l => k (.mapIter m a l c)
  | loop => rfl
  | deferred => rfl

noncomputable def fT {α : Type} (t : T α) (k : T α → R) : R := T.rec (motive := fun _ => R) (k .leaf) (fun o l r _ _ => k (.node o l r)) t
theorem fT_eq {α : Type} (t : T α) (k : T α → R) : fT t k = k t := by cases t <;> rfl

noncomputable def fH (h : H) (k : H → R) : R := H.rec (motive := fun _ => R) (fun t n => fT t fun t => fN n fun n => k ⟨t, n⟩) h
theorem fH_eq (h : H) (k : H → R) : fH h k = k h := by
  obtain ⟨t, n⟩ := h
  show (fT t fun t => fN n fun n => k ⟨t, n⟩) = _
  rw [fT_eq, fN_eq]

/-- Objects of some blocks forced, where they lie. -/
noncomputable def fB (ids : List Nat) : H → (H → R) → R :=
  List.rec (motive := fun _ => H → (H → R) → R) (fun h k => k h)
    (fun id _ ih h k => Option.rec (motive := fun _ => R) (ih h k) (fun o => fO o fun o => h.t.setK (some o) id fun t => ih ⟨t, h.nx⟩ k) (h.t.get id)) ids
theorem fB_eq (ids : List Nat) : ∀ (h : H) (k : H → R), fB ids h k = k h := by
  induction ids with
  | nil => intro h k; rfl
  | cons id ids ih =>
    intro h k
    show Option.rec (motive := fun _ => R) (fB ids h k) (fun o => fO o fun o => h.t.setK (some o) id fun t => fB ids ⟨t, h.nx⟩ k) (h.t.get id) = _
    cases e : h.t.get id with
    | none => exact ih h k
    | some o =>
      show (fO o fun o => h.t.setK (some o) id fun t => fB ids ⟨t, h.nx⟩ k) = _
      rw [fO_eq, T.setK_eq, T.ext_set e, ih]

noncomputable def putK (tm : T AV) (d : Option Nat) (v : AV) (k : T AV → R) : R := Option.rec (motive := fun _ => R) (k tm) (fun d => tm.setK (some v) d k) d
theorem putK_eq (tm : T AV) (d : Option Nat) (v : AV) (k : T AV → R) : putK tm d v k = k (putT tm d v) := by
  cases d with
  | none => rfl
  | some d => exact T.setK_eq _ _ _ _

noncomputable def argK (l : List AV) : Nat → T AV → (T AV → R) → R :=
  List.rec (motive := fun _ => Nat → T AV → (T AV → R) → R) (fun _ t k => k t) (fun v _ ih i t k => t.setK (some v) i fun t => ih (Nat.succ i) t k) l
theorem argK_eq (l : List AV) : ∀ (i : Nat) (t : T AV) (k : T AV → R), argK l i t k = k (argT l i t) := by
  induction l with
  | nil => intro i t k; rfl
  | cons v l ih =>
    intro i t k
    show (t.setK (some v) i fun t => argK l (Nat.succ i) t k) = _
    rw [T.setK_eq, ih]
    rfl

noncomputable def putHK (h : H) (id : Nat) (o : AObj) (k : H → R) : R := h.t.setK (some o) id fun t => k ⟨t, h.nx⟩
theorem putHK_eq (h : H) (id : Nat) (o : AObj) (k : H → R) : putHK h id o k = k (h.put id (some o)) := T.setK_eq _ _ _ _

noncomputable def addHK (h : H) (o : AObj) (k : H → R) : R := h.t.setK (some o) h.nx fun t => fN (Nat.succ h.nx) fun n => k ⟨t, n⟩
theorem addHK_eq (h : H) (o : AObj) (k : H → R) : addHK h o k = k (h.add o) := by
  unfold addHK
  rw [T.setK_eq, fN_eq]
  rfl
end

/-! ### What is not changed -/

/-- All blocks below the mark are as they were. -/
def Lo (h : H) (lo : Nat) (h' : H) (lo' : Nat) : Prop := h.nx ≤ h'.nx ∧ lo' ≤ lo ∧ (lo ≤ h.nx → ∀ id, id < lo' → h'.get id = h.get id)

theorem Lo.refl (h : H) (lo : Nat) : Lo h lo h lo := ⟨Nat.le_refl _, Nat.le_refl _, fun _ _ _ => rfl⟩
theorem Lo.trans {h h1 h2 : H} {lo lo1 lo2 : Nat} (a : Lo h lo h1 lo1) (b : Lo h1 lo1 h2 lo2) : Lo h lo h2 lo2 :=
  ⟨Nat.le_trans a.1 b.1, Nat.le_trans b.2.1 a.2.1, fun hl id hid => (b.2.2 (Nat.le_trans a.2.1 (Nat.le_trans hl a.1)) id hid).trans (a.2.2 hl id (Nat.lt_of_lt_of_le hid b.2.1))⟩
theorem Lo.add (h : H) (lo : Nat) (o : AObj) : Lo h lo (h.add o) lo := ⟨Nat.le_succ _, Nat.le_refl _, fun hl id hid => by rw [H.get_add, if_neg (by omega)]⟩
theorem Lo.put (h : H) (lo id : Nat) (o : Option AObj) {lo' : Nat} (h1 : lo' ≤ lo) (h2 : lo' ≤ id) : Lo h lo (h.put id o) lo' :=
  ⟨Nat.le_refl _, h1, fun _ j hj => by rw [H.get_put, if_neg (by omega)]⟩

noncomputable def minK {R : Type} (a b : Nat) (k : Nat → R) : R := Bool.rec (motive := fun _ => R) (k b) (k a) (Nat.ble a b)
theorem minK_eq {R : Type} (a b : Nat) (k : Nat → R) : minK a b k = k (min a b) := by
  unfold minK
  by_cases h : a ≤ b
  · rw [Nat.ble_eq_true_of_le h, Nat.min_eq_left h]
  · have : Nat.ble a b = false := by
      rw [Bool.eq_false_iff]
      intro c
      exact h (Nat.le_of_ble_eq_true c)
    rw [this, Nat.min_eq_right (by omega)]

noncomputable def minsK {R : Type} (l : List Nat) : Nat → (Nat → R) → R :=
  List.rec (motive := fun _ => Nat → (Nat → R) → R) (fun a k => k a) (fun b _ ih a k => minK a b fun a => ih a k) l
theorem minsK_spec (l : List Nat) : ∀ (a : Nat), ∃ m, (∀ {R : Type} (k : Nat → R), minsK l a k = k m) ∧ m ≤ a ∧ ∀ x ∈ l, m ≤ x := by
  induction l with
  | nil => intro a; exact ⟨a, fun _ => rfl, Nat.le_refl _, by simp⟩
  | cons b l ih =>
    intro a
    obtain ⟨m, h1, h2, h3⟩ := ih (min a b)
    refine ⟨m, fun {R} k => ?_, by omega, fun x hx => ?_⟩
    · show (minK a b fun a => minsK l a k) = _
      rw [minK_eq, h1]
    · rcases List.mem_cons.1 hx with rfl | hx
      · omega
      · exact h3 x hx

/-! ### Operations that call nobody -/

noncomputable def opK (P : Program) (o : Oper) (ρ : Operand → AV) (h : H) (lo : Nat) (k : AV → H → Nat → Bool) : Bool :=
  match opA P o ρ h with
  | none => false
  | some (v, h') => fV v fun v => fH h' fun h' => fLN (wA o ρ) fun w => fB (w ++ List.range' h.nx (h'.nx - h.nx)) h' fun h' => minsK w lo fun lo => k v h' lo

theorem opK_sound {o : Oper} {ρ : Operand → AV} {h : H} {lo : Nat} {k : AV → H → Nat → Bool} (e : opK P o ρ h lo k = true) :
    ∃ v h' lo', opA P o ρ h = some (v, h') ∧ Lo h lo h' lo' ∧ k v h' lo' = true := by
  unfold opK at e
  split at e
  · cases e
  · rename_i v h' ho
    rw [fV_eq, fH_eq, fLN_eq, fB_eq] at e
    obtain ⟨m, h1, h2, h3⟩ := minsK_spec (wA o ρ) lo
    have hk := opA_keep ho
    exact ⟨v, h', m, ho, ⟨hk.1, h2, fun hl id hid => hk.2 id (by omega) fun hm => by have := h3 id hm; omega⟩, by rw [h1] at e; exact e⟩
end Go.Arm

/- The abstract machine: jobs, and one operation of whatever kind. -/
namespace Go.Arm
variable {P : Program}

inductive Job
  | code (fn : FuncId) (rnd : Option Nat) (n : Nat) (c : Code) (pn : Pan) (tm : T AV) (df : List ADef) (h : H) (lo : Nat)
  | loop (fn : FuncId) (rnd : Option Nat) (n : Nat) (c : Code) (pn : Pan) (tm : T AV) (df : List ADef) (h : H) (lo : Nat)
  | leave (fn : Func) (n : Nat) (tm : T AV) (df : List ADef) (m : LM) (h : H) (lo : Nat)
  | call (g : FuncId) (args : List AV) (h : H) (lo : Nat)
  | dcall (g : FuncId) (args : List AV) (pn : Pan) (h : H) (lo : Nat)
  | round (l : Nat) (args : List AV) (h : H) (lo : Nat)

inductive Out
  | code (x : AX) (pn : Pan) (tm : T AV) (df : List ADef) (h : H) (lo : Nat)
  | ret (r : ARes) (h : H) (lo : Nat)
  | pan (pn : Pan) (h : H) (lo : Nat)

def Good (P : Program) (j : Job) (out : Out) : Prop :=
  match j with
  | .code fn rnd n c pn tm df h lo => match out with
    | .code x pn' tm' df' h' lo' => SemI P fn rnd n [.code c] pn tm df h x pn' tm' df' h' ∧ Lo h lo h' lo'
    | _ => False
  | .loop fn rnd n c pn tm df h lo => match out with
    | .code x pn' tm' df' h' lo' => SemI P fn rnd n [.code c, .inLoop c] pn tm df h x pn' tm' df' h' ∧ Lo h lo h' lo'
    | _ => False
  | .leave fn n tm df m h lo => match out with
    | .ret r h' lo' => SemLv P fn n tm df m h r h' ∧ Lo h lo h' lo'
    | _ => False
  | .call g args h lo => match out with
    | .ret r h' lo' => SemCall P g args h r h' ∧ (∃ fn, Func? P g fn) ∧ Lo h lo h' lo'
    | _ => False
  | .dcall g args pn h lo => match out with
    | .pan pn' h' lo' => SemDef P g args h pn pn' h' ∧ (∃ fn, Func? P g fn) ∧ Lo h lo h' lo'
    | _ => False
  | .round l args h lo => match out with
    | .ret (.ok v) h' lo' => SemYield P l args h v h' ∧ Lo h lo h' lo'
    | _ => False

/-- Whatever it says true of has been. -/
def Snd (P : Program) (ih : Job → (Out → Bool) → Bool) : Prop := ∀ j k, ih j k = true → ∃ out, Good P j out ∧ k out = true

/-- A function without a body. -/
noncomputable def extK (P : Program) (fn : Func) (args : List AV) (h : H) (lo : Nat) (k : AV → H → Nat → Bool) : Bool :=
  match extA P fn args h with
  | none => false
  | some (v, h') => fV v fun v => fH h' fun h' => fB (List.range' h.nx (h'.nx - h.nx)) h' fun h' => k v h' lo

theorem extK_sound {fn : Func} {args : List AV} {h : H} {lo : Nat} {k : AV → H → Nat → Bool} (e : extK P fn args h lo k = true) :
    ∃ v h', extA P fn args h = some (v, h') ∧ Lo h lo h' lo ∧ k v h' lo = true := by
  unfold extK at e
  split at e
  · cases e
  · rename_i v h' ho
    rw [fV_eq, fH_eq, fB_eq] at e
    refine ⟨v, h', ho, ?_, e⟩
    rcases extA_nx ho with rfl | ⟨ob, rfl⟩
    · exact Lo.refl _ _
    · exact Lo.add _ _ _

noncomputable def actK (P : Program) (ih : Job → (Out → Bool) → Bool) (o : Oper) (ρ : Operand → AV) (h : H) (lo : Nat) (k : ARes → H → Nat → Bool) : Bool :=
  match o.op with
  | .call c => match c.callee with
    | .value f => match ρ f with
      | .f fn first cap => match fn with
        | .func g => wVL (first ++ c.args.toList.map ρ ++ cap) fun args => match P.funcs[g]? with
          | some fn => match fn.body with
            | none => extK P fn args h lo fun v => k (.ok v)
            | some _ => ih (.call g args h lo) fun out => match out with
              | .ret r h lo => k r h lo
              | _ => false
          | none => false
        | .yield l => match first with
          | [] => match cap with
            | [] => wVL (c.args.toList.map ρ) fun args => ih (.round l args h lo) fun out => match out with
              | .ret r h lo => k r h lo
              | _ => false
            | _ => false
          | _ => false
        | _ => false
      | _ => false
    | .invoke x name => match ρ x with
      | .ifc t v => match methodA P h t v name with
        | some (g, u) => fV u fun u => wVL (u :: c.args.toList.map ρ) fun args => ih (.call g args h lo) fun out => match out with
          | .ret r h lo => k r h lo
          | _ => false
        | none => false
      | _ => false
    | .builtin _ => opK P o ρ h lo fun v => k (.ok v)
  | .panic x => match ρ x with
    | .ifc t v => k (.pan (.ifc t v)) h lo
    | _ => false
  | _ => opK P o ρ h lo fun v => k (.ok v)

theorem actK_sound {ih : Job → (Out → Bool) → Bool} (hs : Snd P ih) {o : Oper} {ρ : Operand → AV} {h : H} {lo : Nat} {k : ARes → H → Nat → Bool} (e : actK P ih o ρ h lo k = true) :
    ∃ r h' lo', OpS P o ρ h r h' ∧ Lo h lo h' lo' ∧ k r h' lo' = true := by
  have direct : ∀ {k : ARes → H → Nat → Bool}, opK P o ρ h lo (fun v => k (.ok v)) = true → ∃ r h' lo', OpS P o ρ h r h' ∧ Lo h lo h' lo' ∧ k r h' lo' = true := fun {k} e => by
    obtain ⟨v, h', lo', h1, h2, h3⟩ := opK_sound e
    obtain ⟨h4, h5⟩ := opA_sound h1
    exact ⟨.ok v, h', lo', h4.opS h5, h2, h3⟩
  unfold actK at e
  split at e
  · rename_i c ho
    obtain ⟨callee, as, ts⟩ := c
    simp only at e
    split at e
    · rename_i f
      split at e
      · rename_i fn first cap hf
        split at e
        · rename_i g
          rw [wVL_eq] at e
          split at e
          · rename_i fn hfn
            split at e
            · rename_i hb
              obtain ⟨v, h', he, hl, hk⟩ := extK_sound e
              obtain ⟨h1, h2, f, h3, h4⟩ := extA_sound he
              exact ⟨.ok v, h', lo, OpV.opS (opV_ext hfn h1 hb h2 h3 ho hf h4) (by rw [ho]; simp), hl, hk⟩
            · obtain ⟨out, hg, hk⟩ := hs _ _ e
              cases out with
              | ret r h' lo' =>
                obtain ⟨h1, ⟨gf, h2⟩, h3⟩ := hg
                exact ⟨r, h', lo', opS_call ho hf h2 h1, h3, hk⟩
              | code => cases hk
              | pan => cases hk
          · cases e
        · rename_i l
          split at e
          · split at e
            · rw [wVL_eq] at e
              obtain ⟨out, hg, hk⟩ := hs _ _ e
              cases out with
              | ret r h' lo' =>
                cases r with
                | ok v => exact ⟨.ok v, h', lo', opS_yield ho hf hg.1, hg.2, hk⟩
                | pan v => exact hg.elim
              | code => cases hk
              | pan => cases hk
            · cases e
          · cases e
        · cases e
      · cases e
    · rename_i x name
      split at e
      · rename_i t v hx
        split at e
        · rename_i g u hm
          rw [fV_eq, wVL_eq] at e
          obtain ⟨out, hg, hk⟩ := hs _ _ e
          cases out with
          | ret r h' lo' =>
            obtain ⟨h1, ⟨gf, h2⟩, h3⟩ := hg
            exact ⟨r, h', lo', opS_invoke ho hx hm h2 h1, h3, hk⟩
          | code => cases hk
          | pan => cases hk
        · cases e
      · cases e
    · exact direct e
  · rename_i x ho
    split at e
    · rename_i t v hx
      exact ⟨.pan (.ifc t v), h, lo, opS_panic ho hx, Lo.refl _ _, e⟩
    · cases e
  · exact direct e
end Go.Arm

/- The abstract machine: regions whose order is open, for the kernel to run. -/
namespace Go.Arm
variable {P : Program}

/-! ### Sets of blocks -/

inductive Bl
  | list (l : List Nat)
  | iv (a b : Nat) (out : List Nat)

def memN (x : Nat) : List Nat → Bool
  | [] => false
  | y :: l => Nat.beq x y || memN x l

theorem memN_iff {x : Nat} {l : List Nat} : memN x l = true ↔ x ∈ l := by
  induction l with
  | nil => simp [memN]
  | cons y l ih => simp [memN, ih, Nat.beq_eq]

def Bl.mem : Bl → Nat → Bool
  | .list l, x => memN x l
  | .iv a b out, x => Nat.ble a x && Nat.blt x b && !memN x out

def Bl.disj : Bl → Bl → Bool
  | .list l, t => l.all fun x => !t.mem x
  | .iv a b out, .list l => l.all fun x => !(Bl.iv a b out).mem x
  | .iv a b _, .iv c d _ => Nat.ble b c || Nat.ble d a || Nat.ble b a || Nat.ble d c

theorem Bl.disj_sound {s t : Bl} (e : s.disj t = true) (x : Nat) (hs : s.mem x = true) : t.mem x = false := by
  cases s with
  | list l =>
    have := List.all_eq_true.1 e x (memN_iff.1 hs)
    simpa using this
  | iv a b out =>
    cases t with
    | list l =>
      cases ht : Bl.mem (.list l) x with
      | false => rfl
      | true =>
        have := List.all_eq_true.1 e x (memN_iff.1 ht)
        simp [hs] at this
    | iv c d out' =>
      cases ht : Bl.mem (.iv c d out') x with
      | false => rfl
      | true =>
        simp only [Bl.mem, Nat.blt, Bool.and_eq_true] at hs ht
        have h1 := Nat.le_of_ble_eq_true hs.1.1
        have h2 := Nat.le_of_ble_eq_true hs.1.2
        have h3 := Nat.le_of_ble_eq_true ht.1.1
        have h4 := Nat.le_of_ble_eq_true ht.1.2
        simp only [Bl.disj, Bool.or_eq_true] at e
        rcases e with ((e | e) | e) | e <;> (have := Nat.le_of_ble_eq_true e; omega)

/-- What is new in an interval is not in a set. -/
def Bl.shuns (a b : Nat) : Bl → Bool
  | .list l => l.all fun x => !(Nat.ble a x && Nat.blt x b)
  | .iv c d out => (List.range' a (b - a)).all fun x => !(Bl.iv c d out).mem x

theorem Bl.shuns_sound {a b : Nat} {t : Bl} (e : t.shuns a b = true) (x : Nat) (h1 : a ≤ x) (h2 : x < b) : t.mem x = false := by
  cases t with
  | list l =>
    cases ht : Bl.mem (.list l) x with
    | false => rfl
    | true =>
      have := List.all_eq_true.1 e x (memN_iff.1 ht)
      have h2' : x + 1 ≤ b := h2
      simp [Nat.ble_eq_true_of_le h1, Nat.blt, Nat.ble_eq_true_of_le h2'] at this
  | iv c d out =>
    have := List.all_eq_true.1 e x (by rw [List.mem_range']; exact ⟨x - a, by omega, by omega⟩)
    simpa using this

/-! ### Entries -/

structure Ent where
  A : H
  B : H
  V : AV
  F : Bl
  h : H
  tm : T AV

structure StepOK (P : Program) (ops : Array Oper) (m k : Nat) (e : Ent) (o : Oper) (h' : H) (tm' : T AV) : Prop where
  ho : ops[k]? = some o
  dst : ∀ d, o.dst = some d → d < m
  put : tm' = putT e.tm o.dst e.V
  run : (Region.wanted o (yieldedA ops e.tm) = false ∧ e.V = .tup [] ∧ h'.nx = e.h.nx ∧ ∀ id, e.F.mem id = false) ∨
    (Region.wanted o (yieldedA ops e.tm) = true ∧ (∀ x ∈ o.op.operands, opdOK P x = true) ∧ OpS P o (opd e.tm) e.A (.ok e.V) e.B)
  mono : e.h.nx ≤ h'.nx
  anx : e.A.nx = e.h.nx
  bnx : e.B.nx = h'.nx
  sees : ∀ id, e.F.mem id = true → e.A.get id = e.h.get id
  hides : ∀ id, id < e.h.nx → e.F.mem id = false → e.A.get id = none
  old : ∀ id, e.F.mem id = true → id < e.h.nx
  merge1 : ∀ id, id < h'.nx → (e.F.mem id = true ∧ e.B.get id ≠ e.A.get id) ∨ e.h.nx ≤ id → h'.get id = e.B.get id
  merge2 : ∀ id, ¬((e.F.mem id = true ∧ e.B.get id ≠ e.A.get id) ∨ e.h.nx ≤ id) → h'.get id = e.h.get id

inductive Chain (P : Program) (ops : Array Oper) (m : Nat) : Nat → T AV → H → List Ent → T AV → H → Prop
  | nil {k : Nat} {tm : T AV} {h : H} : Chain P ops m k tm h [] tm h
  | cons {k : Nat} {e : Ent} {o : Oper} {tm' tm2 : T AV} {h' h2 : H} {es : List Ent} : StepOK P ops m k e o h' tm' → Chain P ops m (k + 1) tm' h' es tm2 h2 → Chain P ops m k e.tm e.h (e :: es) tm2 h2

/-- Two entries, the first of the text's order first, that don't touch each other. -/
def okE (e f : Ent) : Prop :=
  (∀ id, ((e.F.mem id = true ∧ e.B.get id ≠ e.A.get id) ∨ (e.h.nx ≤ id ∧ id < e.B.nx)) → f.F.mem id = false) ∧
  (∀ id, e.F.mem id = true → f.B.get id ≠ f.A.get id → f.F.mem id = false)

def hAt (es : List Ent) (h2 : H) (k : Nat) : H := ((es[k]?).map (·.h)).getD h2
def tmAt (es : List Ent) (t2 : T AV) (k : Nat) : T AV := ((es[k]?).map (·.tm)).getD t2

theorem Chain.at {ops : Array Oper} {m : Nat} {k : Nat} {tm t2 : T AV} {h h2 : H} {es : List Ent} (c : Chain P ops m k tm h es t2 h2) :
    hAt es h2 0 = h ∧ tmAt es t2 0 = tm ∧ ∀ j e, es[j]? = some e → ∃ o, StepOK P ops m (k + j) e o (hAt es h2 (j + 1)) (tmAt es t2 (j + 1)) := by
  induction c with
  | nil => exact ⟨rfl, rfl, fun j e he => by simp at he⟩
  | cons s c ih =>
    obtain ⟨i1, i2, i3⟩ := ih
    refine ⟨rfl, rfl, fun j e he => ?_⟩
    cases j with
    | zero =>
      obtain rfl := Option.some.inj he
      have s' := s
      rw [← i1, ← i2] at s'
      exact ⟨_, s'⟩
    | succ j =>
      obtain ⟨o, so⟩ := i3 j e (by simpa using he)
      refine ⟨o, ?_⟩
      rw [show ∀ x : Nat, x + (j + 1) = x + 1 + j from fun x => by omega]
      exact so

theorem Chain.trace {ops : Array Oper} {m : Nat} {tm t2 : T AV} {h h2 : H} {es : List Ent} (c : Chain P ops m 0 tm h es t2 h2) (hl : es.length = ops.size)
    (hedge : ∀ (i : Nat) (o : Oper) e, ops[i]? = some o → e ∈ o.after → Region.binds .any e = true → e.on < i)
    (hap : ∀ i j oi oj, i < j → ops[i]? = some oi → ops[j]? = some oj → Bef ops i j ∨ oi.apart ops oj = true)
    (hpair : ∀ i j ei ej, i < j → es[i]? = some ei → es[j]? = some ej → Bef ops i j ∨ okE ei ej) :
    ∃ n A B V F tmv, Trace P ops m tm h n A B V F tmv ∧ h2.nx = n ops.size ∧ tmv ops.size = t2 ∧ ∀ id, id < h2.nx → h2.get id = now h n A B F (fun _ => True) ops.size id := by
  obtain ⟨c1, c2, c3⟩ := c.at
  have at' : ∀ k, k < ops.size → ∃ e, es[k]? = some e := fun k hk => ⟨es[k]'(by omega), List.getElem?_eq_getElem (by omega)⟩
  have hA : ∀ k e, es[k]? = some e → hAt es h2 k = e.h := fun k e he => by simp [hAt, he]
  have htm : ∀ k e, es[k]? = some e → tmAt es t2 k = e.tm := fun k e he => by simp [tmAt, he]
  have hend : hAt es h2 ops.size = h2 := by simp [hAt, List.getElem?_eq_none (l := es) (i := ops.size) (by omega)]
  have htend : tmAt es t2 ops.size = t2 := by simp [tmAt, List.getElem?_eq_none (l := es) (i := ops.size) (by omega)]
  refine ⟨fun k => (hAt es h2 k).nx, fun k => ((es[k]?).map (·.A)).getD h2, fun k => ((es[k]?).map (·.B)).getD h2, fun k => ((es[k]?).map (·.V)).getD (.tup []),
    fun (k id : Nat) => ((es[k]?).map fun e => e.F.mem id).getD false = true, fun k => tmAt es t2 k, ?_, by show h2.nx = (hAt es h2 ops.size).nx; rw [hend], htend, ?_⟩
  rotate_left
  all_goals
    have F1 : ∀ (k : Nat) (e : Ent) (id : Nat), es[k]? = some e → (((es[k]?).map fun e => e.F.mem id).getD false = true ↔ e.F.mem id = true) := fun k e id he => by simp [he]
    have key : ∀ k, k ≤ ops.size → ∀ id, id < (hAt es h2 k).nx → ply (wr (fun k => (hAt es h2 k).nx) (fun k => ((es[k]?).map (·.A)).getD h2) (fun k => ((es[k]?).map (·.B)).getD h2) (fun (k id : Nat) => ((es[k]?).map fun e => e.F.mem id).getD false = true))
        (fun k id => (((es[k]?).map (·.B)).getD h2).get id) h.get (fun _ => True) k id = (hAt es h2 k).get id := fun k => by
      induction k with
      | zero => intro _ id _; rw [c1]; rfl
      | succ k ih =>
        intro hk id hid
        obtain ⟨e, he⟩ := at' k (by omega)
        obtain ⟨o, so⟩ := c3 k e he
        simp only [ply]
        by_cases hw : wr (fun k => (hAt es h2 k).nx) (fun k => ((es[k]?).map (·.A)).getD h2) (fun k => ((es[k]?).map (·.B)).getD h2) (fun (k id : Nat) => ((es[k]?).map fun e => e.F.mem id).getD false = true) k id
        · rw [if_pos ⟨trivial, hw⟩]
          simp only [he, Option.map_some, Option.getD_some]
          simp only [wr, he, Option.map_some, Option.getD_some, hA k e he] at hw
          exact (so.merge1 id hid (hw.imp (fun x => x) fun x => x.1)).symm
        · rw [if_neg fun x => hw x.2]
          simp only [wr, he, Option.map_some, Option.getD_some, hA k e he] at hw
          have hlt : id < e.h.nx := Nat.lt_of_not_le fun hge => hw (.inr ⟨hge, hid⟩)
          rw [ih (by omega) id (by rw [hA k e he]; exact hlt), hA k e he]
          exact (so.merge2 id fun x => x.elim (fun x => hw (.inl x)) fun x => by omega).symm
  · intro id hid
    have := key ops.size (Nat.le_refl _) id (by rw [hend]; exact hid)
    rw [hend] at this
    exact this.symm
  · refine { nx := by show (hAt es h2 0).nx = h.nx; rw [c1], tm0 := c2, mono := fun i hi => ?_, anx := fun i hi => ?_, bnx := fun i hi => ?_, sees := fun i id hi hF => ?_, hides := fun i id hi hlt hF => ?_, old := fun i id hi hF => ?_,
             does := fun i o ho => ?_, edge := hedge, apart := fun i j oi oj hij hoi hoj => ?_ }
    · obtain ⟨e, he⟩ := at' i hi
      obtain ⟨o, so⟩ := c3 i e he
      rw [hA i e he]
      exact so.mono
    · obtain ⟨e, he⟩ := at' i hi
      obtain ⟨o, so⟩ := c3 i e he
      simp only [he, Option.map_some, Option.getD_some, hA i e he]
      exact so.anx
    · obtain ⟨e, he⟩ := at' i hi
      obtain ⟨o, so⟩ := c3 i e he
      simp only [he, Option.map_some, Option.getD_some]
      exact so.bnx
    · obtain ⟨e, he⟩ := at' i hi
      obtain ⟨o, so⟩ := c3 i e he
      have hm := (F1 i e id he).1 hF
      have := key i (by omega) id (by rw [hA i e he]; exact so.old id hm)
      rw [hA i e he] at this
      have hs := (so.sees id hm).trans this.symm
      show (((es[i]?).map (·.A)).getD h2).get id = _
      rw [show ((es[i]?).map (·.A)).getD h2 = e.A by simp [he]]
      exact hs
    · obtain ⟨e, he⟩ := at' i hi
      obtain ⟨o, so⟩ := c3 i e he
      simp only [he, Option.map_some, Option.getD_some]
      refine so.hides id (by rw [← hA i e he]; exact hlt) ?_
      cases hm : e.F.mem id with
      | false => rfl
      | true => exact absurd ((F1 i e id he).2 hm) hF
    · obtain ⟨e, he⟩ := at' i hi
      obtain ⟨o, so⟩ := c3 i e he
      rw [hA i e he]
      exact so.old id ((F1 i e id he).1 hF)
    · have hi := (Array.getElem?_eq_some_iff.1 ho).1
      obtain ⟨e, he⟩ := at' i hi
      obtain ⟨o', so⟩ := c3 i e he
      have ho' := so.ho
      rw [Nat.zero_add, ho] at ho'
      obtain rfl := Option.some.inj ho'
      refine ⟨so.dst, ?_, ?_⟩
      · rw [htm i e he]
        simp only [he, Option.map_some, Option.getD_some]
        exact so.put
      · rw [htm i e he]
        simp only [he, Option.map_some, Option.getD_some, hA i e he]
        rcases so.run with ⟨r1, r2, r3, r4⟩ | r
        · refine .inl ⟨r1, r2, r3, fun id hF => ?_⟩
          rw [r4 id] at hF
          cases hF
        · exact .inr r
    · have hi := (Array.getElem?_eq_some_iff.1 hoi).1
      have hj := (Array.getElem?_eq_some_iff.1 hoj).1
      obtain ⟨e, he⟩ := at' i hi
      obtain ⟨f, hf⟩ := at' j hj
      rcases hap i j oi oj hij hoi hoj with b | hap
      · exact .inl b
      · rcases hpair i j e f hij he hf with b | ⟨k1, k2⟩
        · exact .inl b
        · obtain ⟨o, so⟩ := c3 i e he
          refine .inr ⟨fun id hw hF => ?_, fun id hF hw hF' => ?_, hap⟩
          · simp only [he, Option.map_some, Option.getD_some, hA i e he] at hw
            have := k1 id (hw.imp (fun x => x) fun x => ⟨x.1, by rw [so.bnx]; exact x.2⟩)
            rw [(F1 j f id hf).1 hF] at this
            cases this
          · simp only [hf, Option.map_some, Option.getD_some] at hw
            have := k2 id ((F1 i e id he).1 hF) hw
            rw [(F1 j f id hf).1 hF'] at this
            cases this
end Go.Arm

/- The abstract machine: regions whose order is open, run in the text's order with what each looks at told. -/
namespace Go.Arm
variable {P : Program}

/-- The blocks that an operation looks at. -/
def fA (o : Oper) (ρ : Operand → AV) : List Nat :=
  match o.op with
  | .store _ x _ => idsOf (ρ x)
  | .load _ x => idsOf (ρ x)
  | .mapUpdate _ m _ _ => idsOf (ρ m)
  | .insert _ m _ _ => idsOf (ρ m)
  | .lookup _ x _ _ => idsOf (ρ x)
  | .convert _ _ x => idsOf (ρ x)
  | .range _ x => idsOf (ρ x)
  | .next x _ => idsOf (ρ x)
  | .call c => (c.args.toList.map ρ).flatMap idsOf
  | _ => []

/-! ### Who stands before whom -/

def maskOf (acc : List Nat) (k : Nat) (o : Oper) : Nat :=
  o.after.toList.foldl (fun s e => bif Region.binds .any e && Nat.blt e.on k then Nat.lor (Nat.lor s (2 ^ e.on)) (acc.getD (k - 1 - e.on) 0) else s) 0

structure MaskOK (ops : Array Oper) (acc : List Nat) (k : Nat) : Prop where
  len : acc.length = k
  bit : ∀ j, j < k → ∀ i, (acc.getD (k - 1 - j) 0).testBit i = true → Bef ops i j

theorem maskOf_bit {ops : Array Oper} {acc : List Nat} {k : Nat} {o : Oper} (M : MaskOK ops acc k) (ho : ops[k]? = some o) (i : Nat) (h : (maskOf acc k o).testBit i = true) : Bef ops i k := by
  have key : ∀ (l : List Edge) (s : Nat), (∀ e ∈ l, e ∈ o.after) → (∀ i, s.testBit i = true → Bef ops i k) → ∀ i, (l.foldl (fun s e => bif Region.binds .any e && Nat.blt e.on k then Nat.lor (Nat.lor s (2 ^ e.on)) (acc.getD (k - 1 - e.on) 0) else s) s).testBit i = true → Bef ops i k := by
    intro l
    induction l with
    | nil => intro s _ hs i hi; exact hs i hi
    | cons e l ih =>
      intro s hl hs i hi
      simp only [List.foldl_cons] at hi
      refine ih _ (fun e he => hl e (by simp [he])) ?_ i hi
      intro i hi
      cases hb : Region.binds .any e && Nat.blt e.on k with
      | false => rw [hb] at hi; exact hs i hi
      | true =>
        rw [hb] at hi
        simp only [Bool.and_eq_true] at hb
        have hlt : e.on < k := Nat.le_of_ble_eq_true hb.2
        have hedge : Bef ops e.on k := .edge ho (hl e (by simp)) hb.1 rfl
        have hi : ((s ||| 2 ^ e.on) ||| acc.getD (k - 1 - e.on) 0).testBit i = true := hi
        rw [Nat.testBit_or, Nat.testBit_or, Bool.or_eq_true, Bool.or_eq_true] at hi
        rcases hi with (hi | hi) | hi
        · exact hs i hi
        · rw [Nat.testBit_two_pow] at hi
          have : e.on = i := by simpa using hi
          exact this ▸ hedge
        · exact .trans (M.bit e.on hlt i hi) hedge
  exact key o.after.toList 0 (fun e he => by simpa using he) (fun i hi => by simp at hi) i h

theorem MaskOK.cons {ops : Array Oper} {acc : List Nat} {k : Nat} {o : Oper} (M : MaskOK ops acc k) (ho : ops[k]? = some o) : MaskOK ops (maskOf acc k o :: acc) (k + 1) := by
  refine ⟨by simp [M.len], fun j hj i hi => ?_⟩
  by_cases e : j = k
  · subst e
    rw [show j + 1 - 1 - j = 0 by omega] at hi
    exact maskOf_bit M ho i hi
  · refine M.bit j (by omega) i ?_
    rw [show k + 1 - 1 - j = (k - 1 - j) + 1 by omega] at hi
    exact hi

theorem MaskOK.nil (ops : Array Oper) : MaskOK ops [] 0 := ⟨rfl, fun j hj => by omega⟩

/-- What is to be checked of a region's text, once. -/
noncomputable def statL (P : Program) (ops : Array Oper) (m : Nat) : List Oper → Nat → List Nat → List (Nat × Oper) → Bool
  | [], _, _, _ => true
  | o :: l, k, acc, prev =>
    (o.op.operands.toList.all (opdOK P)) && (match o.dst with | some d => Nat.blt d m | none => true) && (o.after.toList.all fun e => !Region.binds .any e || Nat.blt e.on k) &&
    (prev.all fun p => (maskOf acc k o).testBit p.1 || p.2.apart ops o) && statL P ops m l (k + 1) (maskOf acc k o :: acc) ((k, o) :: prev)

theorem statL_sound {ops : Array Oper} {m : Nat} : ∀ (l : List Oper) (k : Nat) (acc : List Nat) (prev : List (Nat × Oper)), (∀ j, ops[k + j]? = l[j]?) → MaskOK ops acc k → (∀ i o, i < k → ops[i]? = some o → (i, o) ∈ prev) →
    statL P ops m l k acc prev = true → ∀ j o, k ≤ j → ops[j]? = some o →
      (∀ x ∈ o.op.operands, opdOK P x = true) ∧ (∀ d, o.dst = some d → d < m) ∧ (∀ e ∈ o.after, Region.binds .any e = true → e.on < j) ∧ ∀ i oi, i < j → ops[i]? = some oi → Bef ops i j ∨ oi.apart ops o = true
  | [], k, acc, prev, hl, M, hp, _, j, o, hj, ho => by
    have := hl (j - k)
    rw [show k + (j - k) = j by omega, ho] at this
    simp at this
  | o' :: l, k, acc, prev, hl, M, hp, e, j, o, hj, ho => by
    simp only [statL, Bool.and_eq_true] at e
    obtain ⟨⟨⟨⟨e1, e2⟩, e3⟩, e4⟩, e5⟩ := e
    have ho' : ops[k]? = some o' := by simpa using hl 0
    by_cases hjk : j = k
    · subst hjk
      rw [ho] at ho'
      obtain rfl := Option.some.inj ho'
      refine ⟨fun x hx => List.all_eq_true.1 e1 x (by simpa using hx), fun d hd => ?_, fun ed he hb => ?_, fun i oi hi hoi => ?_⟩
      · rw [hd] at e2
        exact Nat.le_of_ble_eq_true e2
      · have := List.all_eq_true.1 e3 ed (by simpa using he)
        rw [hb] at this
        simpa using this
      · have := List.all_eq_true.1 e4 (i, oi) (hp i oi hi hoi)
        simp only [Bool.or_eq_true] at this
        exact this.imp (maskOf_bit M ho i) fun x => x
    · refine statL_sound l (k + 1) _ _ (fun j => ?_) (M.cons ho') (fun i oi hi hoi => ?_) e5 j o (by omega) ho
      · have := hl (j + 1)
        rw [show k + (j + 1) = k + 1 + j by omega] at this
        simpa using this
      · by_cases hik : i = k
        · subst hik
          rw [hoi] at ho'
          obtain rfl := Option.some.inj ho'
          simp
        · exact List.mem_cons_of_mem _ (hp i oi (by omega) hoi)

/-! ### Parts of memory -/

noncomputable def killK {R : Type} (ids : List Nat) : H → (H → R) → R :=
  List.rec (motive := fun _ => H → (H → R) → R) (fun h k => k h) (fun id _ ih h k => h.t.setK none id fun t => ih ⟨t, h.nx⟩ k) ids

theorem killK_spec (ids : List Nat) : ∀ (h : H), ∃ h', (∀ {R : Type} (k : H → R), killK ids h k = k h') ∧ h'.nx = h.nx ∧ ∀ id, h'.get id = if id ∈ ids then none else h.get id := by
  induction ids with
  | nil => intro h; exact ⟨h, fun _ => rfl, rfl, by simp⟩
  | cons x ids ih =>
    intro h
    obtain ⟨h', h1, h2, h3⟩ := ih (h.put x none)
    refine ⟨h', fun {R} k => ?_, h2, fun id => ?_⟩
    · show (h.t.setK none x fun t => killK ids ⟨t, h.nx⟩ k) = _
      rw [T.setK_eq]
      exact h1 k
    · rw [h3, H.get_put]
      by_cases e1 : id ∈ ids <;> by_cases e2 : id = x <;> simp [e1, e2]

noncomputable def copyK {R : Type} (ids : List Nat) (src : H) : H → (H → R) → R :=
  List.rec (motive := fun _ => H → (H → R) → R) (fun h k => k h) (fun id _ ih h k => Option.rec (motive := fun _ => R) (h.t.setK none id fun t => ih ⟨t, h.nx⟩ k) (fun o => h.t.setK (some o) id fun t => ih ⟨t, h.nx⟩ k) (src.t.get id)) ids

theorem copyK_spec (ids : List Nat) (src : H) : ∀ (h : H), ∃ h', (∀ {R : Type} (k : H → R), copyK ids src h k = k h') ∧ h'.nx = h.nx ∧ ∀ id, h'.get id = if id ∈ ids then src.get id else h.get id := by
  induction ids with
  | nil => intro h; exact ⟨h, fun _ => rfl, rfl, by simp⟩
  | cons x ids ih =>
    intro h
    obtain ⟨h', h1, h2, h3⟩ := ih (h.put x (src.get x))
    refine ⟨h', fun {R} k => ?_, h2, fun id => ?_⟩
    · show Option.rec (motive := fun _ => R) (h.t.setK none x fun t => copyK ids src ⟨t, h.nx⟩ k) (fun o => h.t.setK (some o) x fun t => copyK ids src ⟨t, h.nx⟩ k) (src.t.get x) = _
      have e : ∀ y, src.t.get x = y → Option.rec (motive := fun _ => R) (h.t.setK none x fun t => copyK ids src ⟨t, h.nx⟩ k) (fun o => h.t.setK (some o) x fun t => copyK ids src ⟨t, h.nx⟩ k) y = k h' := by
        intro y hy
        rw [← h1 k]
        cases y with
        | none =>
          show (h.t.setK none x fun t => copyK ids src ⟨t, h.nx⟩ k) = _
          rw [T.setK_eq]
          simp only [H.put, H.get, hy]
        | some o =>
          show (h.t.setK (some o) x fun t => copyK ids src ⟨t, h.nx⟩ k) = _
          rw [T.setK_eq]
          simp only [H.put, H.get, hy]
      exact e _ rfl
    · rw [h3, H.get_put]
      by_cases e1 : id ∈ ids <;> by_cases e2 : id = x <;> simp [e1, e2]

/-! ### Records of what has been run -/

structure Rc where
  i : Nat
  F : Bl
  W : Bl
  n0 : Nat
  n1 : Nat

def okRB (F W : Bl) (r : Rc) : Bool := F.shuns r.n0 r.n1 && r.W.disj F && r.F.disj W

def okRE (r : Rc) (e : Ent) : Prop :=
  (∀ id, r.W.mem id = true ∨ (r.n0 ≤ id ∧ id < r.n1) → e.F.mem id = false) ∧ (∀ id, r.F.mem id = true → e.B.get id ≠ e.A.get id → e.F.mem id = false)

theorem okRB_sound {r : Rc} {e : Ent} {W : Bl} (h : okRB e.F W r = true) (hw : ∀ id, e.F.mem id = true → e.B.get id ≠ e.A.get id → W.mem id = true) : okRE r e := by
  simp only [okRB, Bool.and_eq_true] at h
  obtain ⟨⟨h1, h2⟩, h3⟩ := h
  refine ⟨fun id hid => ?_, fun id hid hc => ?_⟩
  · rcases hid with hid | hid
    · exact Bl.disj_sound h2 id hid
    · exact Bl.shuns_sound h1 id hid.1 hid.2
  · cases hm : e.F.mem id with
    | false => rfl
    | true =>
      have := Bl.disj_sound h3 id hid
      rw [hw id hm hc] at this
      cases this

structure RcOK (r : Rc) (e : Ent) : Prop where
  F : r.F = e.F
  W : ∀ id, e.F.mem id = true → e.B.get id ≠ e.A.get id → r.W.mem id = true
  n0 : r.n0 = e.h.nx
  n1 : r.n1 = e.B.nx

theorem RcOK.okE {r : Rc} {e f : Ent} (h : RcOK r e) (k : okRE r f) : okE e f := by
  refine ⟨fun id hid => k.1 id ?_, fun id hid hc => k.2 id (by rw [h.F]; exact hid) hc⟩
  rw [h.n0, h.n1]
  exact hid.imp (fun x => h.W id x.1 x.2) fun x => x

/-- What a run over the rest of a region's operations has come to. -/
def Tail (P : Program) (ops : Array Oper) (m k len : Nat) (tm : T AV) (h : H) (lo : Nat) (rs : List Rc) (K : T AV → H → Nat → Bool) : Prop :=
  ∃ es tm' h' lo', Chain P ops m k tm h es tm' h' ∧ es.length = len ∧ Lo h lo h' lo' ∧ K tm' h' lo' = true ∧
    (∀ i j ei ej, i < j → es[i]? = some ei → es[j]? = some ej → Bef ops (k + i) (k + j) ∨ okE ei ej) ∧ (∀ r ∈ rs, ∀ j e, es[j]? = some e → Bef ops r.i (k + j) ∨ okRE r e)

theorem Tail.step {ops : Array Oper} {m k len : Nat} {e : Ent} {o : Oper} {h' : H} {tm' : T AV} {lo lo' : Nat} {rs rs' : List Rc} {K : T AV → H → Nat → Bool} (s : StepOK P ops m k e o h' tm') (hlo : Lo e.h lo h' lo')
    (h0 : ∀ r ∈ rs, Bef ops r.i k ∨ okRE r e) (hrs : ∀ r ∈ rs, r ∈ rs') (hrec : ((∀ id, e.F.mem id = false) ∧ e.B.nx ≤ e.h.nx) ∨ ∃ r ∈ rs', r.i = k ∧ RcOK r e) (t : Tail P ops m (k + 1) len tm' h' lo' rs' K) :
    Tail P ops m k (len + 1) e.tm e.h lo rs K := by
  obtain ⟨es, tm2, h2, lo2, c, hl, l2, hk, hp, hr⟩ := t
  refine ⟨e :: es, tm2, h2, lo2, .cons s c, by simp [hl], hlo.trans l2, hk, fun i j ei ej hij hi hj => ?_, fun r hrr j f hj => ?_⟩
  · cases j with
    | zero => omega
    | succ j =>
      simp only [List.getElem?_cons_succ] at hj
      cases i with
      | zero =>
        obtain rfl : e = ei := by simpa using hi
        rcases hrec with ⟨hF, hn⟩ | ⟨r, hr', hri, hok⟩
        · refine .inr ⟨fun id hid => ?_, fun id hid _ => ?_⟩
          · rcases hid with hid | hid
            · rw [hF id] at hid; cases hid.1
            · omega
          · rw [hF id] at hid; cases hid
        · rcases hr r hr' j ej hj with b | b
          · left
            rw [hri] at b
            rw [show k + 0 = k from rfl, show k + (j + 1) = k + 1 + j by omega]
            exact b
          · exact .inr (hok.okE b)
      | succ i =>
        have := hp i j ei ej (by omega) (by simpa using hi) hj
        rw [show k + (i + 1) = k + 1 + i by omega, show k + (j + 1) = k + 1 + j by omega]
        exact this
  · cases j with
    | zero =>
      obtain rfl : e = f := by simpa using hj
      exact h0 r hrr
    | succ j =>
      rw [show k + (j + 1) = k + 1 + j by omega]
      exact hr r (hrs r hrr) j f (by simpa using hj)

def callsB : Op → Bool
  | .call c => match c.callee with
    | .builtin _ => false
    | _ => true
  | _ => false

noncomputable def drawL (P : Program) (ih : Job → (Out → Bool) → Bool) (ops : Array Oper) (l : List Oper) : Nat → List Nat → T AV → H → Nat → List Rc → (T AV → H → Nat → Bool) → Bool :=
  List.rec (motive := fun _ => Nat → List Nat → T AV → H → Nat → List Rc → (T AV → H → Nat → Bool) → Bool) (fun _ _ tm h lo _ K => K tm h lo)
    (fun o _ rest k acc tm h lo rs K => fN (maskOf acc k o) fun mk =>
      match Region.wanted o (yieldedA ops tm) with
      | false => putK tm o.dst (.tup []) fun tm => rest (Nat.succ k) (mk :: acc) tm h lo rs K
      | true => match callsB o.op with
        | true => fLN ((rs.filter fun r => !mk.testBit r.i).flatMap fun r => List.range' r.n0 (r.n1 - r.n0)) fun ids =>
          killK ids h fun A => actK P ih o (opd tm) A h.nx fun r B lo1 => match r with
            | .pan _ => false
            | .ok v => copyK ids h B fun h' => (ids.all fun x => Nat.blt x h.nx) && ((rs.filter fun r => !mk.testBit r.i).all (okRB (.iv 0 h.nx ids) (.iv lo1 h.nx ids))) &&
                (minK lo lo1 fun lo => putK tm o.dst v fun tm => rest (Nat.succ k) (mk :: acc) tm h' lo (⟨k, .iv 0 h.nx ids, .iv lo1 h.nx ids, h.nx, h'.nx⟩ :: rs) K)
        | false => fLN (fA o (opd tm)) fun fp => (fp.all fun x => Nat.blt x h.nx) && (copyK fp h ⟨.leaf, h.nx⟩ fun A =>
          match opA P o (opd tm) A with
          | none => false
          | some (v, B) => fV v fun v => fH B fun B => fLN (wA o (opd tm)) fun w => (w.all fun x => memN x fp) &&
            (fLN (w ++ List.range' h.nx (B.nx - h.nx)) fun ids => fB ids B fun B => copyK ids B ⟨h.t, B.nx⟩ fun h' =>
              minsK w lo fun lo => putK tm o.dst v fun tm =>
              match fp with
              | [] => rest (Nat.succ k) (mk :: acc) tm h' lo (bif Nat.beq h'.nx h.nx then rs else ⟨k, .list fp, .list w, h.nx, h'.nx⟩ :: rs) K
              | _ :: _ => ((rs.filter fun r => !mk.testBit r.i).all (okRB (.list fp) (.list w))) && rest (Nat.succ k) (mk :: acc) tm h' lo (⟨k, .list fp, .list w, h.nx, h'.nx⟩ :: rs) K))) l

theorem filter_all {rs : List Rc} {mk : Nat} {f : Rc → Bool} (e : (rs.filter fun r => !mk.testBit r.i).all f = true) (r : Rc) (hr : r ∈ rs) : mk.testBit r.i = true ∨ f r = true := by
  cases hb : mk.testBit r.i with
  | true => exact .inl rfl
  | false => exact .inr (List.all_eq_true.1 e r (List.mem_filter.2 ⟨hr, by simp [hb]⟩))

theorem drawL_sound {ih : Job → (Out → Bool) → Bool} (hs : Snd P ih) {ops : Array Oper} {m : Nat}
    (hst : ∀ (k : Nat) o, ops[k]? = some o → (∀ x ∈ o.op.operands, opdOK P x = true) ∧ (∀ d, o.dst = some d → d < m)) : ∀ (l : List Oper) (k : Nat) (acc : List Nat) (tm : T AV) (h : H) (lo : Nat) (rs : List Rc) (K : T AV → H → Nat → Bool),
    (∀ j, ops[k + j]? = l[j]?) → MaskOK ops acc k → drawL P ih ops l k acc tm h lo rs K = true → Tail P ops m k l.length tm h lo rs K := by
  intro l
  induction l with
  | nil =>
    intro k acc tm h lo rs K _ _ e
    exact ⟨[], tm, h, lo, .nil, rfl, Lo.refl _ _, e, fun i j ei ej _ hi => by simp at hi, fun r _ j e hj => by simp at hj⟩
  | cons o l ihl =>
    intro k acc tm h lo rs K hl M e
    have ho : ops[k]? = some o := by simpa using hl 0
    have hl' : ∀ j, ops[k + 1 + j]? = l[j]? := fun j => by
      have := hl (j + 1)
      rw [show k + (j + 1) = k + 1 + j by omega] at this
      simpa using this
    have hbit := maskOf_bit M ho
    have M' := M.cons ho
    obtain ⟨hops, hdst⟩ := hst k o ho
    have e0 : fN (maskOf acc k o) (fun mk =>
      match Region.wanted o (yieldedA ops tm) with
      | false => putK tm o.dst (.tup []) fun tm => drawL P ih ops l (Nat.succ k) (mk :: acc) tm h lo rs K
      | true => match callsB o.op with
        | true => fLN ((rs.filter fun r => !mk.testBit r.i).flatMap fun r => List.range' r.n0 (r.n1 - r.n0)) fun ids =>
          killK ids h fun A => actK P ih o (opd tm) A h.nx fun r B lo1 => match r with
            | .pan _ => false
            | .ok v => copyK ids h B fun h' => (ids.all fun x => Nat.blt x h.nx) && ((rs.filter fun r => !mk.testBit r.i).all (okRB (.iv 0 h.nx ids) (.iv lo1 h.nx ids))) &&
                (minK lo lo1 fun lo => putK tm o.dst v fun tm => drawL P ih ops l (Nat.succ k) (mk :: acc) tm h' lo (⟨k, .iv 0 h.nx ids, .iv lo1 h.nx ids, h.nx, h'.nx⟩ :: rs) K)
        | false => fLN (fA o (opd tm)) fun fp => (fp.all fun x => Nat.blt x h.nx) && (copyK fp h ⟨.leaf, h.nx⟩ fun A =>
          match opA P o (opd tm) A with
          | none => false
          | some (v, B) => fV v fun v => fH B fun B => fLN (wA o (opd tm)) fun w => (w.all fun x => memN x fp) &&
            (fLN (w ++ List.range' h.nx (B.nx - h.nx)) fun ids => fB ids B fun B => copyK ids B ⟨h.t, B.nx⟩ fun h' =>
              minsK w lo fun lo => putK tm o.dst v fun tm =>
              match fp with
              | [] => drawL P ih ops l (Nat.succ k) (mk :: acc) tm h' lo (bif Nat.beq h'.nx h.nx then rs else ⟨k, .list fp, .list w, h.nx, h'.nx⟩ :: rs) K
              | _ :: _ => ((rs.filter fun r => !mk.testBit r.i).all (okRB (.list fp) (.list w))) && drawL P ih ops l (Nat.succ k) (mk :: acc) tm h' lo (⟨k, .list fp, .list w, h.nx, h'.nx⟩ :: rs) K))) = true := e
    clear e
    rw [fN_eq] at e0
    split at e0
    · -- not wanted
      rename_i hw
      rw [putK_eq] at e0
      refine Tail.step (e := ⟨⟨.leaf, h.nx⟩, ⟨.leaf, h.nx⟩, .tup [], .list [], h, tm⟩) ⟨ho, hdst, rfl, .inl ⟨hw, rfl, rfl, fun _ => rfl⟩, Nat.le_refl _, rfl, rfl, fun id hm => by simp [Bl.mem, memN] at hm, fun id _ _ => T.get_leaf id,
        fun id hm => by simp [Bl.mem, memN] at hm, fun id hid hc => ?_, fun _ _ => rfl⟩ (Lo.refl _ _) (fun r _ => .inr ⟨fun _ _ => rfl, fun _ _ _ => rfl⟩) (fun _ hr => hr) (.inl ⟨fun _ => rfl, Nat.le_refl _⟩)
        (ihl (k + 1) _ _ h lo rs K hl' M' e0)
      rcases hc with ⟨hm, _⟩ | hc
      · simp [Bl.mem, memN] at hm
      · have hc : h.nx ≤ id := hc
        omega
    · rename_i hw
      split at e0
      · -- somebody is called
        rw [fLN_eq] at e0
        generalize hids : ((rs.filter fun (r : Rc) => !(maskOf acc k o).testBit r.i).flatMap fun r => List.range' r.n0 (r.n1 - r.n0)) = ids at e0
        obtain ⟨A, ek, hAn, hAg⟩ := killK_spec ids h
        rw [ek] at e0
        obtain ⟨r, B, lo1, hop, hlo, e1⟩ := actK_sound hs e0
        cases r with
        | pan v => cases e1
        | ok v =>
          obtain ⟨h', ec, hn', hg'⟩ := copyK_spec ids h B
          have e2 := e1
          simp only at e2
          rw [ec] at e2
          rw [minK_eq, putK_eq, Bool.and_eq_true, Bool.and_eq_true] at e2
          obtain ⟨⟨e4, e2⟩, e3⟩ := e2
          have hold : ∀ id ∈ ids, id < h.nx := fun id hid => Nat.le_of_ble_eq_true (List.all_eq_true.1 e4 id hid)
          have hF : ∀ id, Bl.mem (.iv 0 h.nx ids) id = true ↔ id < h.nx ∧ id ∉ ids := fun id => by
            simp only [Bl.mem, Nat.blt, Bool.and_eq_true, Bool.not_eq_true', ← memN_iff (l := ids)]
            constructor
            · rintro ⟨⟨_, h2⟩, h3⟩
              exact ⟨Nat.le_of_ble_eq_true h2, by rw [h3]; simp⟩
            · rintro ⟨h2, h3⟩
              exact ⟨⟨Nat.ble_eq_true_of_le (Nat.zero_le _), Nat.ble_eq_true_of_le h2⟩, by simpa using h3⟩
          have hAnx : A.nx = h.nx := hAn
          have hB1 : h.nx ≤ B.nx := by rw [← hAnx]; exact hlo.1
          have hW : ∀ id, Bl.mem (.iv 0 h.nx ids) id = true → B.get id ≠ A.get id → Bl.mem (.iv lo1 h.nx ids) id = true := fun id hm hc => by
            obtain ⟨h1, h2⟩ := (hF id).1 hm
            have h3 : lo1 ≤ id := Nat.le_of_not_lt fun hlt => hc (hlo.2.2 (by omega) id hlt)
            have h4 : memN id ids = false := by
              rw [Bool.eq_false_iff]
              exact fun c => h2 (memN_iff.1 c)
            have h1' : id + 1 ≤ h.nx := h1
            simp only [Bl.mem, Nat.blt, Nat.ble_eq_true_of_le h3, Nat.ble_eq_true_of_le h1', h4]
            rfl
          refine Tail.step (e := ⟨A, B, v, .iv 0 h.nx ids, h, tm⟩) (h' := h') (lo' := min lo lo1) (rs' := ⟨k, .iv 0 h.nx ids, .iv lo1 h.nx ids, h.nx, h'.nx⟩ :: rs)
            ⟨ho, hdst, rfl, .inr ⟨hw, hops, hop⟩, by rw [hn']; exact hB1, hAnx, hn'.symm, fun id hm => ?_, fun id hlt hm => ?_, fun id hm => ((hF id).1 hm).1, fun id hid hc => ?_, fun id hc => ?_⟩
            ⟨by rw [hn']; exact hB1, Nat.min_le_left _ _, fun hlh id hid => ?_⟩ (fun r hr => ?_) (fun r hr => List.mem_cons_of_mem _ hr) (.inr ⟨_, List.mem_cons_self, rfl, rfl, hW, rfl, hn'⟩)
            (ihl (k + 1) _ _ h' _ _ K hl' M' e3)
          · rw [hAg, if_neg ((hF id).1 hm).2]
          · rw [hAg, if_pos]
            refine Classical.byContradiction fun c => ?_
            rw [(hF id).2 ⟨hlt, c⟩] at hm
            cases hm
          · rw [hg']
            split
            · rename_i hin
              rcases hc with ⟨hm, _⟩ | hc
              · exact absurd hin ((hF id).1 hm).2
              · have := hold id hin
                have hc : h.nx ≤ id := hc
                omega
            · rfl
          · rw [hg']
            split
            · rfl
            · rename_i hin
              have hlt : id < h.nx := Nat.lt_of_not_le fun hge => hc (.inr hge)
              have hm := (hF id).2 ⟨hlt, hin⟩
              have : B.get id = A.get id := Classical.byContradiction fun c => hc (.inl ⟨hm, c⟩)
              rw [this, hAg, if_neg hin]
          · rw [hg']
            split
            · rfl
            · rename_i hin
              rw [hlo.2.2 (by omega) id (by omega), hAg, if_neg hin]
          · rcases filter_all e2 r hr with b | b
            · exact .inl (hbit r.i b)
            · exact .inr (okRB_sound b hW)
      · -- nobody is called
        rw [fLN_eq, Bool.and_eq_true] at e0
        obtain ⟨e1, e0⟩ := e0
        generalize hfp : fA o (opd tm) = fp at e0 e1
        have hfl : ∀ id ∈ fp, id < h.nx := fun id hid => Nat.le_of_ble_eq_true (List.all_eq_true.1 e1 id hid)
        obtain ⟨A, ek, hAn, hAg⟩ := copyK_spec fp h ⟨.leaf, h.nx⟩
        have e2 := e0
        rw [ek] at e2
        clear e0
        have hAnx : A.nx = h.nx := hAn
        split at e2
        · cases e2
        · rename_i v B hopA
          rw [fV_eq, fH_eq, fLN_eq, Bool.and_eq_true, fLN_eq, fB_eq] at e2
          obtain ⟨e3, e2⟩ := e2
          generalize hww : wA o (opd tm) = w at e2 e3
          have hwfp : ∀ x ∈ w, x ∈ fp := fun x hx => memN_iff.1 (List.all_eq_true.1 e3 x hx)
          obtain ⟨hk1, hk2⟩ := opA_keep hopA
          rw [hww] at hk2
          obtain ⟨hv, hnd⟩ := opA_sound hopA
          have hop := hv.opS hnd
          obtain ⟨h', ec, hn', hg'⟩ := copyK_spec (w ++ List.range' h.nx (B.nx - h.nx)) B ⟨h.t, B.nx⟩
          have e4 := e2
          rw [ec] at e4
          clear e2
          obtain ⟨lo', el, hl1, hl2⟩ := minsK_spec w lo
          have e5 := e4
          rw [el] at e5
          clear e4
          rw [putK_eq] at e5
          have hn'' : h'.nx = B.nx := hn'
          have hB1 : h.nx ≤ B.nx := by rw [← hAnx]; exact hk1
          have hmem : ∀ id, Bl.mem (.list fp) id = true ↔ id ∈ fp := fun id => memN_iff
          have hfalse : ∀ id, Bl.mem (.list fp) id = false ↔ id ∉ fp := fun id => by
            rw [← hmem]
            simp
          have hW : ∀ id, Bl.mem (.list fp) id = true → B.get id ≠ A.get id → Bl.mem (.list w) id = true := fun id hm hc =>
            memN_iff.2 (Classical.byContradiction fun c => hc (hk2 id (by rw [hAnx]; exact hfl id ((hmem id).1 hm)) c))
          have hAfp : ∀ id ∈ fp, A.get id = h.get id := fun id hid => by rw [hAg, if_pos hid]
          have hh' : ∀ id, h'.get id = if id ∈ w ∨ (h.nx ≤ id ∧ id < B.nx) then B.get id else h.get id := fun id => by
            rw [hg']
            have : id ∈ w ++ List.range' h.nx (B.nx - h.nx) ↔ id ∈ w ∨ (h.nx ≤ id ∧ id < B.nx) := by
              rw [List.mem_append, List.mem_range'_1]
              constructor <;> (rintro (c | c); exact .inl c; exact .inr (by omega))
            by_cases c : id ∈ w ∨ (h.nx ≤ id ∧ id < B.nx)
            · rw [if_pos c, if_pos (this.2 c)]
            · rw [if_neg c, if_neg fun x => c (this.1 x)]
              rfl
          have sok : StepOK P ops m k ⟨A, B, v, .list fp, h, tm⟩ o h' (putT tm o.dst v) := ⟨ho, hdst, rfl, .inr ⟨hw, hops, hop⟩, by rw [hn'']; exact hB1, hAnx, hn''.symm, fun id hm => hAfp id ((hmem id).1 hm),
            fun id _ hm => by
              show A.get id = none
              rw [hAg, if_neg ((hfalse id).1 hm)]
              exact T.get_leaf id, fun id hm => hfl id ((hmem id).1 hm), fun id hid hc => by
              rw [hh', if_pos]
              rcases hc with ⟨hm, hc⟩ | hc
              · exact .inl (memN_iff.1 (hW id hm hc))
              · exact .inr ⟨hc, by rw [← hn'']; exact hid⟩,
            fun id hc => by
              rw [hh']
              split
              · rename_i c
                rcases c with c | c
                · have hm := (hmem id).2 (hwfp id c)
                  have : B.get id = A.get id := Classical.byContradiction fun x => hc (.inl ⟨hm, x⟩)
                  rw [this, hAfp id (hwfp id c)]
                · exact absurd (.inr c.1) hc
              · rfl⟩
          have hlo : Lo h lo h' lo' := ⟨by rw [hn'']; exact hB1, hl1, fun hlh id hid => by
            rw [hh', if_neg]
            rintro (c | c)
            · have := hl2 id c; omega
            · omega⟩
          split at e5
          · -- it looks at nothing
            refine Tail.step sok hlo (fun r _ => .inr ⟨fun id _ => (hfalse id).2 (by simp), fun id _ _ => (hfalse id).2 (by simp)⟩) (fun r hr => ?_) ?_ (ihl (k + 1) _ _ h' _ _ K hl' M' e5)
            · cases Nat.beq h'.nx h.nx with
              | true => exact hr
              | false => exact List.mem_cons_of_mem _ hr
            · cases hb : Nat.beq h'.nx h.nx with
              | true =>
                refine .inl ⟨fun id => (hfalse id).2 (by simp), ?_⟩
                have := Nat.eq_of_beq_eq_true hb
                show B.nx ≤ h.nx
                omega
              | false => exact .inr ⟨_, List.mem_cons_self, rfl, rfl, hW, rfl, hn''⟩
          · rw [Bool.and_eq_true] at e5
            refine Tail.step sok hlo (fun (r : Rc) hr => ?_) (fun r hr => List.mem_cons_of_mem _ hr) (.inr ⟨_, List.mem_cons_self, rfl, rfl, hW, rfl, hn''⟩) (ihl (k + 1) _ _ h' _ _ K hl' M' e5.2)
            rcases filter_all e5.1 r hr with b | b
            · exact .inl (hbit r.i b)
            · exact .inr (okRB_sound b hW)

/-- A region whose order is open. -/
theorem SemI.draw {ih : Job → (Out → Bool) → Bool} (hs : Snd P ih) (hm : P.follows .mixedOrders = true) {ops : Array Oper} {m id : Nat} {fn : FuncId} {rnd : Option Nat} {pn : Pan} {tm : T AV} {df : List ADef} {h : H} {lo : Nat}
    {K : T AV → H → Nat → Bool} (hst : statL P ops m ops.toList 0 [] [] = true) (e : drawL P ih ops ops.toList 0 [] tm h lo [] K = true) :
    ∃ tm' h' lo', SemI P fn rnd m [.code (.region id ops true)] pn tm df h .nrm pn tm' df h' ∧ Lo h lo h' lo' ∧ K tm' h' lo' = true := by
  have h0 : ∀ j, ops[0 + j]? = ops.toList[j]? := fun j => by simp
  have st := statL_sound ops.toList 0 [] [] h0 (MaskOK.nil ops) (fun i o hi => by omega) hst
  obtain ⟨es, tm', h', lo', c, hl, hlo, hk, hp, _⟩ := drawL_sound hs (m := m) (fun k o ho => ⟨(st k o (Nat.zero_le _) ho).1, (st k o (Nat.zero_le _) ho).2.1⟩) ops.toList 0 [] tm h lo [] K h0 (MaskOK.nil ops) e
  obtain ⟨n, A, B, V, F, tmv, t, k1, k2, k3⟩ := c.trace (by simpa using hl) (fun i o ed ho he hb => (st i o (Nat.zero_le _) ho).2.2.1 ed he hb)
    (fun i j oi oj hij hoi hoj => (st j oj (Nat.zero_le _) hoj).2.2.2 i oi hij hoi) (fun i j ei ej hij hi hj => by simpa using hp i j ei ej hij hi hj)
  exact ⟨tm', h', lo', k2 ▸ SemI.regionDraw hm t k1 k3, hlo, hk⟩
end Go.Arm

/- The abstract machine, for the kernel to run: whole functions. -/
namespace Go.Arm
variable {P : Program}

/-- The operations of a region in the text's order. -/
noncomputable def opsStep (P : Program) (ih : Job → (Out → Bool) → Bool) (rnd : Option Nat) (ops : Array Oper) (o : Oper) (rest : Pan → T AV → List ADef → H → Nat → (Out → Bool) → Bool)
    (pn : Pan) (tm : T AV) (df : List ADef) (h : H) (lo : Nat) (k : Out → Bool) : Bool :=
      match Region.wanted o (yieldedA ops tm) with
      | false => putK tm o.dst (.tup []) fun tm => rest pn tm df h lo k
      | true => match o.op with
        | .defer c => match rnd with
          | none => match c.callee with
            | .value f => match opd tm f with
              | .f fn first cap => match fn with
                | .func g => wVL (first ++ c.args.toList.map (opd tm)) fun args => putK tm o.dst (.tup []) fun tm => rest pn tm (.fn (.func g) cap args :: df) h lo k
                | _ => false
              | _ => false
            | _ => false
          | some _ => false
        | .call c => match c.callee with
          | .builtin b => match b with
            | .recover => match rnd with
              | none => match pn with
                | .dpan v => putK tm o.dst v fun tm => rest (.drec v) tm df h lo k
                | .norm => putK tm o.dst .ifn fun tm => rest .norm tm df h lo k
                | .dret => putK tm o.dst .ifn fun tm => rest .dret tm df h lo k
                | .drec v => putK tm o.dst .ifn fun tm => rest (.drec v) tm df h lo k
              | some _ => false
            | _ => opK P o (opd tm) h lo fun v h lo => putK tm o.dst v fun tm => rest pn tm df h lo k
          | _ => actK P ih o (opd tm) h lo fun r h lo => match r with
            | .ok v => putK tm o.dst v fun tm => rest pn tm df h lo k
            | .pan v => k (.code (.pan v) pn tm df h lo)
        | .panic _ => actK P ih o (opd tm) h lo fun r h lo => match r with
            | .ok v => putK tm o.dst v fun tm => rest pn tm df h lo k
            | .pan v => k (.code (.pan v) pn tm df h lo)
        | _ => opK P o (opd tm) h lo fun v h lo => putK tm o.dst v fun tm => rest pn tm df h lo k

noncomputable def opsK (P : Program) (ih : Job → (Out → Bool) → Bool) (rnd : Option Nat) (ops : Array Oper) (l : List Oper) : Pan → T AV → List ADef → H → Nat → (Out → Bool) → Bool :=
  List.rec (motive := fun _ => Pan → T AV → List ADef → H → Nat → (Out → Bool) → Bool) (fun pn tm df h lo k => k (.code .nrm pn tm df h lo))
    (fun o _ rest pn tm df h lo k => opsStep P ih rnd ops o rest pn tm df h lo k) l

theorem opK_op {o : Oper} {ρ : Operand → AV} {h : H} {lo : Nat} {k : AV → H → Nat → Bool} (e : opK P o ρ h lo k = true) : ∃ v h' lo', OpS P o ρ h (.ok v) h' ∧ Lo h lo h' lo' ∧ k v h' lo' = true := by
  obtain ⟨v, h', lo', h1, h2, h3⟩ := opK_sound e
  obtain ⟨h4, h5⟩ := opA_sound h1
  exact ⟨v, h', lo', h4.opS h5, h2, h3⟩

theorem range_drop (n i : Nat) (h : i < n) : (List.range n).drop i = i :: (List.range n).drop (i + 1) := by
  rw [List.drop_eq_getElem_cons (by simpa using h)]
  simp

/-- What a piece of items has come to, and that all is well behind it. -/
def Did (P : Program) (fn : FuncId) (rnd : Option Nat) (m : Nat) (pre : List Item) (pn : Pan) (tm : T AV) (df : List ADef) (h : H) (lo : Nat) (k : Out → Bool) : Prop :=
  ∃ x pn' tm' df' h' lo', SemI P fn rnd m pre pn tm df h x pn' tm' df' h' ∧ Lo h lo h' lo' ∧ k (.code x pn' tm' df' h' lo') = true

theorem opsK_sound {ih : Job → (Out → Bool) → Bool} (hs : Snd P ih) {fn : FuncId} {rnd : Option Nat} {m : Nat} {ops : Array Oper}
    (hst : ∀ (k : Nat) o, ops[k]? = some o → (∀ x ∈ o.op.operands, opdOK P x = true) ∧ (∀ d, o.dst = some d → d < m)) : ∀ (l : List Oper) (i : Nat) (pn : Pan) (tm : T AV) (df : List ADef) (h : H) (lo : Nat) (k : Out → Bool),
    ops.toList.drop i = l → opsK P ih rnd ops l pn tm df h lo k = true → Did P fn rnd m [.inRegion ops ((List.range ops.size).drop i)] pn tm df h lo k := by
  intro l
  induction l with
  | nil =>
    intro i pn tm df h lo k hl e
    have : ops.size ≤ i := by simpa using List.drop_eq_nil_iff.1 hl
    rw [List.drop_eq_nil_of_le (by simpa using this)]
    exact ⟨.nrm, pn, tm, df, h, lo, SemI.opsNil, Lo.refl _ _, e⟩
  | cons o l ihl =>
    intro i pn tm df h lo k hl e
    have hi : i < ops.size := by
      refine Nat.lt_of_not_le fun c => ?_
      rw [List.drop_eq_nil_of_le (by simpa using c)] at hl
      cases hl
    have ho : ops[i]? = some o := by
      have := congrArg (fun l => l[0]?) hl
      simpa using this
    have hl' : ops.toList.drop (i + 1) = l := by
      have := congrArg List.tail hl
      simpa using this
    obtain ⟨hops, hdst⟩ := hst i o ho
    rw [range_drop _ _ hi]
    have next : ∀ {v : AV} {h1 : H} {lo1 : Nat} {k : Out → Bool}, Region.wanted o (yieldedA ops tm) = true → OpS P o (opd tm) h (.ok v) h1 → Lo h lo h1 lo1 → opsK P ih rnd ops l pn (putT tm o.dst v) df h1 lo1 k = true →
        Did P fn rnd m [.inRegion ops (i :: (List.range ops.size).drop (i + 1))] pn tm df h lo k := fun hw hop hlo e => by
      obtain ⟨x, pn', tm', df', h', lo', s, l2, hk⟩ := ihl (i + 1) _ _ _ _ _ _ hl' e
      exact ⟨x, pn', tm', df', h', lo', SemI.op ho hw hops hdst hop s, hlo.trans l2, hk⟩
    have act : ∀ {k : Out → Bool}, Region.wanted o (yieldedA ops tm) = true → actK P ih o (opd tm) h lo (fun r h lo => match r with
            | .ok v => putK tm o.dst v fun tm => opsK P ih rnd ops l pn tm df h lo k
            | .pan v => k (.code (.pan v) pn tm df h lo)) = true → Did P fn rnd m [.inRegion ops (i :: (List.range ops.size).drop (i + 1))] pn tm df h lo k := fun {k} hw e => by
      obtain ⟨r, h1, lo1, hop, hlo, e1⟩ := actK_sound hs e
      cases r with
      | ok v => exact next hw hop hlo (by simpa only [putK_eq] using e1)
      | pan v => exact ⟨.pan v, pn, tm, df, h1, lo1, SemI.opPan ho hw hops hop, hlo, e1⟩
    have dir : ∀ {k : Out → Bool}, Region.wanted o (yieldedA ops tm) = true → opK P o (opd tm) h lo (fun v h lo => putK tm o.dst v fun tm => opsK P ih rnd ops l pn tm df h lo k) = true →
        Did P fn rnd m [.inRegion ops (i :: (List.range ops.size).drop (i + 1))] pn tm df h lo k := fun {k} hw e => by
      obtain ⟨v, h1, lo1, hop, hlo, e1⟩ := opK_op e
      exact next hw hop hlo (by simpa only [putK_eq] using e1)
    have e0 : opsStep P ih rnd ops o (opsK P ih rnd ops l) pn tm df h lo k = true := e
    unfold opsStep at e0
    clear e
    split at e0
    · rename_i hw
      rw [putK_eq] at e0
      obtain ⟨x, pn', tm', df', h', lo', s, l2, hk⟩ := ihl (i + 1) _ _ _ _ _ _ hl' e0
      exact ⟨x, pn', tm', df', h', lo', SemI.opSkip ho hw hdst s, l2, hk⟩
    · rename_i hw
      split at e0
      · rename_i c hop
        obtain ⟨callee, as, ts⟩ := c
        cases rnd with
        | some _ => cases e0
        | none =>
          simp only at e0
          split at e0
          · rename_i f
            split at e0
            · rename_i fn' first cap hf
              split at e0
              · rename_i g
                rw [wVL_eq, putK_eq] at e0
                obtain ⟨x, pn', tm', df', h', lo', s, l2, hk⟩ := ihl (i + 1) _ _ _ _ _ _ hl' e0
                exact ⟨x, pn', tm', df', h', lo', SemI.opDefer (c := default) ho hop hw hops hdst hf s, l2, hk⟩
              · cases e0
            · cases e0
          · cases e0
      · rename_i c hop
        obtain ⟨callee, as, ts⟩ := c
        simp only at e0
        split at e0
        · rename_i b
          split at e0
          · cases rnd with
            | some _ => cases e0
            | none =>
              simp only at e0
              split at e0
              · rename_i v
                rw [putK_eq] at e0
                obtain ⟨x, pn', tm', df', h', lo', s, l2, hk⟩ := ihl (i + 1) _ _ _ _ _ _ hl' e0
                exact ⟨x, pn', tm', df', h', lo', SemI.opRecover ho hop hw hdst rfl s, l2, hk⟩
              all_goals
                rw [putK_eq] at e0
                obtain ⟨x, pn', tm', df', h', lo', s, l2, hk⟩ := ihl (i + 1) _ _ _ _ _ _ hl' e0
                exact ⟨x, pn', tm', df', h', lo', SemI.opRecoverNil ho hop hw hdst (by simp) s, l2, hk⟩
          · exact dir hw e0
        · exact act hw e0
      · exact act hw e0
      · exact dir hw e0
end Go.Arm

/- The abstract machine, for the kernel to run: jobs. -/
namespace Go.Arm
variable {P : Program}

def opsOK (P : Program) (m : Nat) (ops : Array Oper) : Bool := ops.toList.all fun o => o.op.operands.toList.all (opdOK P) && (match o.dst with | some d => Nat.blt d m | none => true)

theorem opsOK_spec {m : Nat} {ops : Array Oper} (h : opsOK P m ops = true) (k : Nat) (o : Oper) (ho : ops[k]? = some o) : (∀ x ∈ o.op.operands, opdOK P x = true) ∧ (∀ d, o.dst = some d → d < m) := by
  have := List.all_eq_true.1 h o (by simpa using Array.mem_of_getElem? ho)
  simp only [Bool.and_eq_true] at this
  refine ⟨fun x hx => List.all_eq_true.1 this.1 x (by simpa using hx), fun d hd => ?_⟩
  have h2 := this.2
  rw [hd] at h2
  exact Nat.le_of_ble_eq_true h2

/-- What comes behind a loop over a function. -/
noncomputable def endF (ih : Job → (Out → Bool) → Bool) (fn : FuncId) (rnd : Option Nat) (n l : Nat) (pn : Pan) (tm : T AV) (df : List ADef) (h : H) (lo : Nat) (k : Out → Bool) : Bool :=
  match h.get l with
  | some (.loop st pend fn2 tmb nb pb ab bb df2) => match st == .busy with
    | true => false
    | false => putHK h l (.loop .exhausted pend fn2 tmb nb pb ab bb df2) fun h => minK lo l fun lo => match pend with
      | none => k (.code .nrm pn tm df h lo)
      | some c => ih (.code fn rnd n c pn tm df h lo) k
  | _ => false

noncomputable def codeF (P : Program) (ih : Job → (Out → Bool) → Bool) (fn : FuncId) (rnd : Option Nat) (n : Nat) (c : Code) (pn : Pan) (tm : T AV) (df : List ADef) (h : H) (lo : Nat) (k : Out → Bool) : Bool :=
  match c with
  | .skip => k (.code .nrm pn tm df h lo)
  | .label _ => k (.code .nrm pn tm df h lo)
  | .exit id => k (.code (.ext id) pn tm df h lo)
  | .ret => k (.code .ret pn tm df h lo)
  | .seq a b => ih (.code fn rnd n a pn tm df h lo) fun out => match out with
    | .code x pn tm df h lo => match x with
      | .nrm => ih (.code fn rnd n b pn tm df h lo) k
      | .ext id => k (.code (.ext id) pn tm df h lo)
      | .ret => k (.code .ret pn tm df h lo)
      | .pan v => k (.code (.pan v) pn tm df h lo)
    | _ => false
  | .block id a => ih (.code fn rnd n a pn tm df h lo) fun out => match out with
    | .code x pn tm df h lo => match x with
      | .nrm => k (.code .nrm pn tm df h lo)
      | .ext j => match Nat.beq j id with
        | true => k (.code .nrm pn tm df h lo)
        | false => k (.code (.ext j) pn tm df h lo)
      | .ret => k (.code .ret pn tm df h lo)
      | .pan v => k (.code (.pan v) pn tm df h lo)
    | _ => false
  | .loop a => ih (.loop fn rnd n a pn tm df h lo) k
  | .scope a => ih (.code fn rnd n a pn tm df h lo) k
  | .cond x a b => match opdOK P x with
    | false => false
    | true => match opd tm x with
      | .b t => match t with
        | true => ih (.code fn rnd n a pn tm df h lo) k
        | false => ih (.code fn rnd n b pn tm df h lo) k
      | _ => false
  | .region _ ops draw => match draw with
    | false => match opsOK P n ops with
      | false => false
      | true => opsK P ih rnd ops ops.toList pn tm df h lo k
    | true => match statL P ops n ops.toList 0 [] [] with
      | false => false
      | true => drawL P ih ops ops.toList 0 [] tm h lo [] fun tm h lo => k (.code .nrm pn tm df h lo)
  | .rangeFunc f params assign body => match opdOK P f with
    | false => false
    | true => match opd tm f with
      | .f f' first cap => match f' with
        | .func g => match rnd with
          | none => addHK h (.deferred (some [])) fun h1 => addHK h1 (.loop .ready none fn tm n params assign body h.nx) fun h2 => fN (h.nx + 1) fun l =>
            wVL (first ++ [.f (.yield l) [] []] ++ cap) fun args => ih (.call g args h2 lo) fun out => match out with
              | .ret r h3 lo => match r with
                | .ok _ => endF ih fn none n l pn tm (.col h.nx :: df) h3 lo k
                | .pan _ => false
              | _ => false
          | some l0 => match h.get l0 with
            | some (.loop _ _ _ _ _ _ _ _ df0) => addHK h (.loop .ready none fn tm n params assign body df0) fun h2 =>
              wVL (first ++ [.f (.yield h.nx) [] []] ++ cap) fun args => ih (.call g args h2 lo) fun out => match out with
                | .ret r h3 lo => match r with
                  | .ok _ => endF ih fn (some l0) n h.nx pn tm df h3 lo k
                  | .pan _ => false
                | _ => false
            | _ => false
        | _ => false
      | _ => false
  | _ => false

noncomputable def leaveF (P : Program) (ih : Job → (Out → Bool) → Bool) (fn : Func) (n : Nat) (tm : T AV) (df : List ADef) (m : LM) (h : H) (lo : Nat) (k : Out → Bool) : Bool :=
  match df with
  | [] => match m with
    | .ret => match resultA P fn tm h with
      | some v => fV v fun v => k (.ret (.ok v) h lo)
      | none => false
    | .pan v => k (.ret (.pan v) h lo)
  | d :: df => match d with
    | .col id => match h.get id with
      | some (.deferred (some l)) => putHK h id (.deferred none) fun h => minK lo id fun lo => ih (.leave fn n tm (l ++ df) m h lo) k
      | _ => false
    | .fn f cap args => match f with
      | .func g => wVL (args ++ cap) fun args => ih (.dcall g args m.pan? h lo) fun out => match out with
        | .pan pn h lo => match pn.lm with
          | some m => ih (.leave fn n tm df m h lo) k
          | none => false
        | _ => false
      | _ => false

noncomputable def callF (P : Program) (ih : Job → (Out → Bool) → Bool) (g : FuncId) (args : List AV) (h : H) (lo : Nat) (k : Out → Bool) : Bool :=
  match P.funcs[g]? with
  | some fn => match fn.body with
      | none => false
      | some c => fN (args.length + (fn.ntmps - args.length)) fun n => argK args 0 .leaf fun tm => ih (.code g none n c .norm tm [] h lo) fun out => match out with
        | .code x pn tm df h lo => match pn with
          | .norm => match x with
            | .nrm => ih (.leave fn n tm df .ret h lo) k
            | .ret => ih (.leave fn n tm df .ret h lo) k
            | .pan v => ih (.leave fn n tm df (.pan v) h lo) k
            | .ext _ => false
          | _ => false
        | _ => false
  | none => false

noncomputable def dcallF (P : Program) (ih : Job → (Out → Bool) → Bool) (g : FuncId) (args : List AV) (pn : Pan) (h : H) (lo : Nat) (k : Out → Bool) : Bool :=
  match P.funcs[g]? with
  | some fn => match fn.body with
      | none => false
      | some c => match pn.lm with
        | none => false
        | some _ => fN (args.length + (fn.ntmps - args.length)) fun n => argK args 0 .leaf fun tm => ih (.code g none n c pn tm [] h lo) fun out => match out with
          | .code x pn tm df h lo => match df with
            | [] => match resultA P fn tm h with
              | none => false
              | some _ => match x with
                | .nrm => k (.pan pn h lo)
                | .ret => k (.pan pn h lo)
                | _ => false
            | _ => false
          | _ => false
  | none => false

noncomputable def parK {R : Type} (ps : List Nat) : List AV → T AV → (T AV → R) → R :=
  List.rec (motive := fun _ => List AV → T AV → (T AV → R) → R) (fun _ tm k => k tm)
    (fun t _ ih vs tm k => List.rec (motive := fun _ => R) (k tm) (fun v vs _ => tm.setK (some v) t fun tm => ih vs tm k) vs) ps

theorem parK_eq {R : Type} (ps : List Nat) : ∀ (vs : List AV) (tm : T AV) (k : T AV → R), parK ps vs tm k = k (parT ps vs tm) := by
  induction ps with
  | nil => intro vs tm k; rfl
  | cons p ps ih =>
    intro vs tm k
    cases vs with
    | nil => rfl
    | cons v vs =>
      show (tm.setK (some v) p fun tm => parK ps vs tm k) = _
      rw [T.setK_eq, ih]
      rfl

noncomputable def roundF (ih : Job → (Out → Bool) → Bool) (l : Nat) (args : List AV) (h : H) (lo : Nat) (k : Out → Bool) : Bool :=
  match h.get l with
  | some (.loop st _ fn tm n params assign body _) => match st with
    | .ready => match Nat.beq args.length params.size && params.toList.all fun p => Nat.blt p n with
      | false => false
      | true => parK params.toList args tm fun tm => ih (.code fn (some l) n assign .norm tm [] h lo) fun out => match out with
        | .code .nrm .norm tm2 [] h1 lo => match h1.get l with
          | some (.loop st1 pend1 fn1 tma na pa aa ba df') => match st1 with
            | .ready => putHK h1 l (.loop .busy pend1 fn1 tma na pa aa ba df') fun h1 => minK lo l fun lo => ih (.code fn (some l) n body .norm tm2 [] h1 lo) fun out => match out with
              | .code x .norm _ [] h2 lo => match h2.get l with
                | some (.loop _ _ fn2 tmb nb pb ab bb df2) => match x with
                  | .nrm => putHK h2 l (.loop .ready none fn2 tmb nb pb ab bb df2) fun h2 => minK lo l fun lo => k (.ret (.ok (.b true)) h2 lo)
                  | .ret => putHK h2 l (.loop .done (some .ret) fn2 tmb nb pb ab bb df2) fun h2 => minK lo l fun lo => k (.ret (.ok (.b false)) h2 lo)
                  | .ext id => putHK h2 l (.loop .done (some (.exit id)) fn2 tmb nb pb ab bb df2) fun h2 => minK lo l fun lo => k (.ret (.ok (.b false)) h2 lo)
                  | .pan _ => false
                | _ => false
              | _ => false
            | _ => false
          | _ => false
        | _ => false
    | _ => false
  | _ => false

noncomputable def evF (P : Program) (ih : Job → (Out → Bool) → Bool) (j : Job) (k : Out → Bool) : Bool :=
  match j with
  | .code fn rnd n c pn tm df h lo => codeF P ih fn rnd n c pn tm df h lo k
  | .loop fn rnd n c pn tm df h lo => ih (.code fn rnd n c pn tm df h lo) fun out => match out with
    | .code x pn tm df h lo => match x with
      | .nrm => ih (.loop fn rnd n c pn tm df h lo) k
      | .ext id => k (.code (.ext id) pn tm df h lo)
      | .ret => k (.code .ret pn tm df h lo)
      | .pan v => k (.code (.pan v) pn tm df h lo)
    | _ => false
  | .leave fn n tm df m h lo => leaveF P ih fn n tm df m h lo k
  | .call g args h lo => callF P ih g args h lo k
  | .dcall g args pn h lo => dcallF P ih g args pn h lo k
  | .round l args h lo => roundF ih l args h lo k

noncomputable def ev (P : Program) (fuel : Nat) : Job → (Out → Bool) → Bool := Nat.rec (motive := fun _ => Job → (Out → Bool) → Bool) (fun _ _ => false) (fun _ ih => evF P ih) fuel

/-! ### Whatever it says true of has been -/

section
variable {ih : Job → (Out → Bool) → Bool} (hs : Snd P ih)
include hs

theorem code_good {fn : FuncId} {rnd : Option Nat} {n : Nat} {c : Code} {pn : Pan} {tm : T AV} {df : List ADef} {h : H} {lo : Nat} {k : Out → Bool} (e : ih (.code fn rnd n c pn tm df h lo) k = true) :
    Did P fn rnd n [.code c] pn tm df h lo k := by
  obtain ⟨out, hg, hk⟩ := hs _ _ e
  cases out with
  | code x pn' tm' df' h' lo' => exact ⟨x, pn', tm', df', h', lo', hg.1, hg.2, hk⟩
  | ret => exact hg.elim
  | pan => exact hg.elim

theorem loop_good {fn : FuncId} {rnd : Option Nat} {n : Nat} {c : Code} {pn : Pan} {tm : T AV} {df : List ADef} {h : H} {lo : Nat} {k : Out → Bool} (e : ih (.loop fn rnd n c pn tm df h lo) k = true) :
    Did P fn rnd n [.code c, .inLoop c] pn tm df h lo k := by
  obtain ⟨out, hg, hk⟩ := hs _ _ e
  cases out with
  | code x pn' tm' df' h' lo' => exact ⟨x, pn', tm', df', h', lo', hg.1, hg.2, hk⟩
  | ret => exact hg.elim
  | pan => exact hg.elim

theorem call_good {g : FuncId} {args : List AV} {h : H} {lo : Nat} {k : Out → Bool} (e : ih (.call g args h lo) k = true) :
    ∃ r h' lo', SemCall P g args h r h' ∧ (∃ fn, Func? P g fn) ∧ Lo h lo h' lo' ∧ k (.ret r h' lo') = true := by
  obtain ⟨out, hg, hk⟩ := hs _ _ e
  cases out with
  | ret r h' lo' => exact ⟨r, h', lo', hg.1, hg.2.1, hg.2.2, hk⟩
  | code => exact hg.elim
  | pan => exact hg.elim

theorem dcall_good {g : FuncId} {args : List AV} {pn : Pan} {h : H} {lo : Nat} {k : Out → Bool} (e : ih (.dcall g args pn h lo) k = true) :
    ∃ pn' h' lo', SemDef P g args h pn pn' h' ∧ (∃ fn, Func? P g fn) ∧ Lo h lo h' lo' ∧ k (.pan pn' h' lo') = true := by
  obtain ⟨out, hg, hk⟩ := hs _ _ e
  cases out with
  | pan r h' lo' => exact ⟨r, h', lo', hg.1, hg.2.1, hg.2.2, hk⟩
  | code => exact hg.elim
  | ret => exact hg.elim

theorem leave_good {fn : Func} {n : Nat} {tm : T AV} {df : List ADef} {m : LM} {h : H} {lo : Nat} {k : Out → Bool} (e : ih (.leave fn n tm df m h lo) k = true) :
    ∃ r h' lo', SemLv P fn n tm df m h r h' ∧ Lo h lo h' lo' ∧ k (.ret r h' lo') = true := by
  obtain ⟨out, hg, hk⟩ := hs _ _ e
  cases out with
  | ret r h' lo' => exact ⟨r, h', lo', hg.1, hg.2, hk⟩
  | code => exact hg.elim
  | pan => exact hg.elim

variable {fn : FuncId} {rnd : Option Nat} {n : Nat} {pn : Pan} {tm : T AV} {df : List ADef} {h : H} {lo : Nat} {k : Out → Bool}

omit hs in
/-- One piece of items behind another one, as far as it goes on. -/
theorem Did.behind {p q : List Item} (hq : q.all Item.plain2 = true) {k1 : Out → Bool}
    (d : Did P fn rnd n p pn tm df h lo k1) (hnrm : ∀ pn tm df h lo, k1 (.code .nrm pn tm df h lo) = true → Did P fn rnd n q pn tm df h lo k) (hext : ∀ id pn tm df h lo, k1 (.code (.ext id) pn tm df h lo) = true → k (.code (.ext id) pn tm df h lo) = true)
    (hret : ∀ pn tm df h lo, k1 (.code .ret pn tm df h lo) = true → k (.code .ret pn tm df h lo) = true) (hpan : ∀ v pn tm df h lo, k1 (.code (.pan v) pn tm df h lo) = true → k (.code (.pan v) pn tm df h lo) = true) :
    Did P fn rnd n (p ++ q) pn tm df h lo k := by
  obtain ⟨x, pn1, tm1, df1, h1, lo1, s, l1, e⟩ := d
  cases x with
  | nrm =>
    obtain ⟨x, pn2, tm2, df2, h2, lo2, s2, l2, e2⟩ := hnrm _ _ _ _ _ e
    exact ⟨x, pn2, tm2, df2, h2, lo2, SemI.seq s s2, l1.trans l2, e2⟩
  | ext id => exact ⟨_, _, _, _, _, _, SemI.stop (by simp) hq s, l1, hext _ _ _ _ _ _ e⟩
  | ret => exact ⟨_, _, _, _, _, _, SemI.stop (by simp) hq s, l1, hret _ _ _ _ _ e⟩
  | pan v => exact ⟨_, _, _, _, _, _, SemI.stop (by simp) hq s, l1, hpan _ _ _ _ _ _ e⟩

theorem endF_sound {l : Nat} (e : endF ih fn rnd n l pn tm df h lo k = true) : ∃ st pend fn2 tmb nb pb ab bb df2, h.get l = some (.loop st pend fn2 tmb nb pb ab bb df2) ∧ (st == .busy) = false ∧
    ∃ x pn' tm' df' h' lo', SemI P fn rnd n ((pend.map Item.code).toList) pn tm df (h.put l (some (.loop .exhausted pend fn2 tmb nb pb ab bb df2))) x pn' tm' df' h' ∧ Lo h lo h' lo' ∧ k (.code x pn' tm' df' h' lo') = true := by
  unfold endF at e
  split at e
  · rename_i st pend fn2 tmb nb pb ab bb df2 hg
    split at e
    · cases e
    · rename_i hb
      rw [putHK_eq, minK_eq] at e
      have hl : Lo h lo (h.put l (some (.loop .exhausted pend fn2 tmb nb pb ab bb df2))) (min lo l) := Lo.put _ _ _ _ (Nat.min_le_left _ _) (Nat.min_le_right _ _)
      refine ⟨st, pend, fn2, tmb, nb, pb, ab, bb, df2, hg, hb, ?_⟩
      cases pend with
      | none => exact ⟨_, _, _, _, _, _, SemI.nil, hl, e⟩
      | some c =>
        obtain ⟨x, pn', tm', df', h', lo', s, l2, hk⟩ := code_good hs e
        exact ⟨x, pn', tm', df', h', lo', s, hl.trans l2, hk⟩
  · cases e

theorem codeF_sound (hm : P.follows .mixedOrders = true) {c : Code} (e : codeF P ih fn rnd n c pn tm df h lo k = true) : Did P fn rnd n [.code c] pn tm df h lo k := by
  unfold codeF at e
  split at e
  · exact ⟨_, _, _, _, _, _, SemI.skip, Lo.refl _ _, e⟩
  · exact ⟨_, _, _, _, _, _, SemI.label, Lo.refl _ _, e⟩
  · exact ⟨_, _, _, _, _, _, SemI.exit, Lo.refl _ _, e⟩
  · exact ⟨_, _, _, _, _, _, SemI.ret, Lo.refl _ _, e⟩
  · rename_i a b
    have := Did.behind (k := k) (q := [.code b]) rfl (code_good hs e) (fun pn tm df h lo e => code_good hs e) (fun _ _ _ _ _ _ e => e) (fun _ _ _ _ _ e => e) (fun _ _ _ _ _ _ e => e)
    obtain ⟨x, pn', tm', df', h', lo', s, l, hk⟩ := this
    exact ⟨x, pn', tm', df', h', lo', SemI.codeSeq s, l, hk⟩
  · rename_i id a
    obtain ⟨x, pn', tm', df', h', lo', s, l, hk⟩ := code_good hs e
    have sb := SemI.block (id := id) s
    cases x with
    | nrm => exact ⟨_, _, _, _, _, _, sb, l, hk⟩
    | ext j =>
      simp only at sb hk
      split at hk
      · rename_i hb
        rw [if_pos (Nat.eq_of_beq_eq_true hb)] at sb
        exact ⟨_, _, _, _, _, _, sb, l, hk⟩
      · rename_i hb
        rw [if_neg (Nat.ne_of_beq_eq_false hb)] at sb
        exact ⟨_, _, _, _, _, _, sb, l, hk⟩
    | ret => exact ⟨_, _, _, _, _, _, sb, l, hk⟩
    | pan v => exact ⟨_, _, _, _, _, _, sb, l, hk⟩
  · obtain ⟨x, pn', tm', df', h', lo', s, l, hk⟩ := loop_good hs e
    exact ⟨x, pn', tm', df', h', lo', SemI.loop s, l, hk⟩
  · obtain ⟨x, pn', tm', df', h', lo', s, l, hk⟩ := code_good hs e
    exact ⟨x, pn', tm', df', h', lo', SemI.scope s, l, hk⟩
  · rename_i x a b
    split at e
    · cases e
    · rename_i hok
      split at e
      · rename_i t ht
        split at e
        · obtain ⟨x, pn', tm', df', h', lo', s, l, hk⟩ := code_good hs e
          exact ⟨x, pn', tm', df', h', lo', SemI.cond hok ht s, l, hk⟩
        · obtain ⟨x, pn', tm', df', h', lo', s, l, hk⟩ := code_good hs e
          exact ⟨x, pn', tm', df', h', lo', SemI.cond hok ht s, l, hk⟩
      · cases e
  · rename_i id ops draw
    split at e
    · split at e
      · cases e
      · rename_i hok
        obtain ⟨x, pn', tm', df', h', lo', s, l, hk⟩ := opsK_sound hs (fn := fn) (m := n) (opsOK_spec hok) ops.toList 0 pn tm df h lo k rfl e
        exact ⟨x, pn', tm', df', h', lo', SemI.region s, l, hk⟩
    · split at e
      · cases e
      · rename_i hst
        obtain ⟨tm', h', lo', s, l, hk⟩ := SemI.draw hs hm hst e
        exact ⟨_, _, tm', _, h', lo', s, l, hk⟩
  · rename_i f params assign body
    split at e
    · cases e
    · rename_i hok
      split at e
      · rename_i f' first cap hf
        split at e
        · rename_i g
          cases rnd with
          | none =>
            simp only at e
            rw [addHK_eq, addHK_eq, fN_eq, wVL_eq] at e
            obtain ⟨r, h3, lo3, hc, ⟨gf, hgf⟩, l3, e3⟩ := call_good hs e
            cases r with
            | pan v => cases e3
            | ok v =>
              obtain ⟨st, pend, fn2, tmb, nb, pb, ab, bb, df2, hg, hst, x, pn', tm', df', h', lo', s, l4, hk⟩ := endF_sound hs e3
              exact ⟨x, pn', tm', df', h', lo', SemI.rangeFunc hgf hok hf hc hg hst s, (((Lo.add h lo _).trans (Lo.add _ lo _)).trans l3).trans l4, hk⟩
          | some l0 =>
            simp only at e
            split at e
            · rename_i st0 pend0 fn0 tm0 n0 p0 a0 b0 df0 hg0
              rw [addHK_eq, wVL_eq] at e
              obtain ⟨r, h3, lo3, hc, ⟨gf, hgf⟩, l3, e3⟩ := call_good hs e
              cases r with
              | pan v => cases e3
              | ok v =>
                obtain ⟨st, pend, fn2, tmb, nb, pb, ab, bb, df2, hg, hst, x, pn', tm', df', h', lo', s, l4, hk⟩ := endF_sound hs e3
                exact ⟨x, pn', tm', df', h', lo', SemI.rangeFuncIn hgf hok hf hg0 hc hg hst s, ((Lo.add h lo _).trans l3).trans l4, hk⟩
            · cases e
        · cases e
      · cases e
  · cases e
end
end Go.Arm

/- The abstract machine, for the kernel to run: whatever it says true of has been. -/
namespace Go.Arm
variable {P : Program}

section
variable {ih : Job → (Out → Bool) → Bool} (hm : Plain P) (hs : Snd P ih)
include hs

theorem leaveF_sound {fn : Func} {n : Nat} {tm : T AV} {df : List ADef} {m : LM} {h : H} {lo : Nat} {k : Out → Bool} (e : leaveF P ih fn n tm df m h lo k = true) :
    ∃ r h' lo', SemLv P fn n tm df m h r h' ∧ Lo h lo h' lo' ∧ k (.ret r h' lo') = true := by
  unfold leaveF at e
  split at e
  · split at e
    · split at e
      · rename_i v hv
        rw [fV_eq] at e
        exact ⟨_, _, _, semLv_ret hv, Lo.refl _ _, e⟩
      · cases e
    · exact ⟨_, _, _, semLv_pan, Lo.refl _ _, e⟩
  · rename_i d df
    split at e
    · rename_i id
      split at e
      · rename_i l hg
        rw [putHK_eq, minK_eq] at e
        obtain ⟨r, h', lo', s, l1, hk⟩ := leave_good hs e
        exact ⟨r, h', lo', semLv_col hg s, (Lo.put _ _ _ _ (Nat.min_le_left _ _) (Nat.min_le_right _ _)).trans l1, hk⟩
      · cases e
    · rename_i f cap args
      split at e
      · rename_i g
        rw [wVL_eq] at e
        obtain ⟨pn', h1, lo1, hd, ⟨gf, hgf⟩, l1, e1⟩ := dcall_good hs e
        simp only at e1
        split at e1
        · rename_i m' hm'
          obtain ⟨r, h', lo', s, l2, hk⟩ := leave_good hs e1
          exact ⟨r, h', lo', semLv_call hgf hd hm' s, l1.trans l2, hk⟩
        · cases e1
      · cases e

include hm in
theorem callF_sound {g : FuncId} {args : List AV} {h : H} {lo : Nat} {k : Out → Bool} (e : callF P ih g args h lo k = true) :
    ∃ r h' lo', SemCall P g args h r h' ∧ (∃ fn, Func? P g fn) ∧ Lo h lo h' lo' ∧ k (.ret r h' lo') = true := by
  unfold callF at e
  split at e
  · rename_i fn hf
    · have hname := hm.names _ _ hf
      split at e
      · cases e
      · rename_i c hb
        rw [fN_eq, argK_eq] at e
        obtain ⟨x, pn1, tm1, df1, h1, lo1, s, l1, e1⟩ := code_good hs e
        have hF : ∃ fn, Func? P g fn := ⟨fn, hf, hname, by rw [hb]; rfl⟩
        cases pn1 with
        | norm =>
          cases x with
          | nrm =>
            obtain ⟨r, h', lo', s2, l2, hk⟩ := leave_good hs e1
            exact ⟨r, h', lo', semCall_body hf hb s (.inl ⟨.inl rfl, rfl⟩) s2, hF, l1.trans l2, hk⟩
          | ret =>
            obtain ⟨r, h', lo', s2, l2, hk⟩ := leave_good hs e1
            exact ⟨r, h', lo', semCall_body hf hb s (.inl ⟨.inr rfl, rfl⟩) s2, hF, l1.trans l2, hk⟩
          | pan v =>
            obtain ⟨r, h', lo', s2, l2, hk⟩ := leave_good hs e1
            exact ⟨r, h', lo', semCall_body hf hb s (.inr ⟨v, rfl, rfl⟩) s2, hF, l1.trans l2, hk⟩
          | ext id => cases e1
        | dret => cases e1
        | dpan v => cases e1
        | drec v => cases e1
  · cases e

include hm in
theorem dcallF_sound {g : FuncId} {args : List AV} {pn : Pan} {h : H} {lo : Nat} {k : Out → Bool} (e : dcallF P ih g args pn h lo k = true) :
    ∃ pn' h' lo', SemDef P g args h pn pn' h' ∧ (∃ fn, Func? P g fn) ∧ Lo h lo h' lo' ∧ k (.pan pn' h' lo') = true := by
  unfold dcallF at e
  split at e
  · rename_i fn hf
    · have hname := hm.names _ _ hf
      split at e
      · cases e
      · rename_i c hb
        split at e
        · cases e
        · rename_i m hpn
          rw [fN_eq, argK_eq] at e
          obtain ⟨x, pn1, tm1, df1, h1, lo1, s, l1, e1⟩ := code_good hs e
          have hF : ∃ fn, Func? P g fn := ⟨fn, hf, hname, by rw [hb]; rfl⟩
          simp only at e1
          split at e1
          · split at e1
            · cases e1
            · rename_i v hv
              split at e1
              · exact ⟨_, _, _, semDef_body hf hb s (.inl rfl) (by rw [hpn]; simp) hv, hF, l1, e1⟩
              · exact ⟨_, _, _, semDef_body hf hb s (.inr rfl) (by rw [hpn]; simp) hv, hF, l1, e1⟩
              · cases e1
          · cases e1
  · cases e

theorem roundF_sound {l : Nat} {args : List AV} {h : H} {lo : Nat} {k : Out → Bool} (e : roundF ih l args h lo k = true) :
    ∃ v h' lo', SemYield P l args h v h' ∧ Lo h lo h' lo' ∧ k (.ret (.ok v) h' lo') = true := by
  unfold roundF at e
  split at e
  · rename_i st pend fn tm n params assign body df hg
    split at e
    · split at e
      · cases e
      · rename_i hc
        rw [Bool.and_eq_true] at hc
        have ha : args.length = params.size := Nat.eq_of_beq_eq_true hc.1
        have hp : ∀ p ∈ params.toList, p < n := fun p hp => Nat.le_of_ble_eq_true (List.all_eq_true.1 hc.2 p hp)
        rw [parK_eq] at e
        obtain ⟨x1, pn1, tm2, df1, h1, lo1, s1, l1, e1⟩ := code_good hs e
        simp only at e1
        split at e1
        · rename_i out x1 pn1 tm2 df1 h1 lo1 heq
          obtain ⟨rfl, rfl, rfl, rfl, rfl, rfl⟩ := by simpa using heq
          split at e1
          · rename_i st1 pend1 fn1 tma na pa aa ba df' hg1
            split at e1
            · rw [putHK_eq, minK_eq] at e1
              obtain ⟨x, pn2, tm3, df2, h2, lo2, s2, l2, e2⟩ := code_good hs e1
              have ll := (l1.trans (Lo.put _ _ l _ (Nat.min_le_left _ _) (Nat.min_le_right _ _))).trans l2
              simp only at e2
              split at e2
              · rename_i out2 x tm3 h2 lo2 heq2
                obtain ⟨rfl, rfl, rfl, rfl, rfl, rfl⟩ := by simpa using heq2
                split at e2
                · rename_i st2 pend2 fn2 tmb nb pb ab bb df2 hg2
                  split at e2
                  · rw [putHK_eq, minK_eq] at e2
                    exact ⟨_, _, _, semYield hg ha hp s1 hg1 s2 (jump := none) rfl hg2, ll.trans (Lo.put _ _ l _ (Nat.min_le_left _ _) (Nat.min_le_right _ _)), e2⟩
                  · rw [putHK_eq, minK_eq] at e2
                    exact ⟨_, _, _, semYield hg ha hp s1 hg1 s2 (jump := some .ret) rfl hg2, ll.trans (Lo.put _ _ l _ (Nat.min_le_left _ _) (Nat.min_le_right _ _)), e2⟩
                  · rename_i id
                    rw [putHK_eq, minK_eq] at e2
                    exact ⟨_, _, _, semYield hg ha hp s1 hg1 s2 (jump := some (.exit id)) rfl hg2, ll.trans (Lo.put _ _ l _ (Nat.min_le_left _ _) (Nat.min_le_right _ _)), e2⟩
                  · cases e2
                · cases e2
              · cases e2
            · cases e1
          · cases e1
        · cases e1
    · cases e
  · cases e

include hm in
theorem evF_sound : Snd P (evF P ih) := by
  intro j k e
  cases j with
  | code fn rnd n c pn tm df h lo =>
    obtain ⟨x, pn', tm', df', h', lo', s, l, hk⟩ := codeF_sound hs hm.mixed e
    exact ⟨.code x pn' tm' df' h' lo', ⟨s, l⟩, hk⟩
  | loop fn rnd n c pn tm df h lo =>
    have := Did.behind (k := k) (q := [.inLoop c]) rfl (code_good hs e) (fun pn tm df h lo e => by
      obtain ⟨x, pn', tm', df', h', lo', s, l, hk⟩ := loop_good hs e
      exact ⟨x, pn', tm', df', h', lo', SemI.inLoop s, l, hk⟩) (fun _ _ _ _ _ _ e => e) (fun _ _ _ _ _ e => e) (fun _ _ _ _ _ _ e => e)
    obtain ⟨x, pn', tm', df', h', lo', s, l, hk⟩ := this
    exact ⟨.code x pn' tm' df' h' lo', ⟨s, l⟩, hk⟩
  | leave fn n tm df m h lo =>
    obtain ⟨r, h', lo', s, l, hk⟩ := leaveF_sound hs e
    exact ⟨.ret r h' lo', ⟨s, l⟩, hk⟩
  | call g args h lo =>
    obtain ⟨r, h', lo', s, f, l, hk⟩ := callF_sound hm hs e
    exact ⟨.ret r h' lo', ⟨s, f, l⟩, hk⟩
  | dcall g args pn h lo =>
    obtain ⟨r, h', lo', s, f, l, hk⟩ := dcallF_sound hm hs e
    exact ⟨.pan r h' lo', ⟨s, f, l⟩, hk⟩
  | round l args h lo =>
    obtain ⟨v, h', lo', s, l1, hk⟩ := roundF_sound hs e
    exact ⟨.ret (.ok v) h' lo', ⟨s, l1⟩, hk⟩
end

theorem ev_sound (hm : Plain P) (fuel : Nat) : Snd P (ev P fuel) := by
  induction fuel with
  | zero => intro j k e; cases e
  | succ fuel ih => exact evF_sound hm ih

/-- A closed function that gives 'true'. -/
noncomputable def says (P : Program) (fuel : Nat) (g : FuncId) : Bool :=
  ev P fuel (.call g [] ⟨.leaf, 0⟩ 0) fun out => match out with
    | .ret r _ _ => match r with
      | .ok v => match v with
        | .b t => t
        | _ => false
      | .pan _ => false
    | _ => false

theorem says_sound (hm : Plain P) {fuel : Nat} {g : FuncId} (e : says P fuel g = true) : ∃ h', SemCall P g [] ⟨.leaf, 0⟩ (.ok (.b true)) h' := by
  obtain ⟨out, hg, hk⟩ := ev_sound hm fuel _ _ e
  cases out with
  | code => cases hk
  | pan => cases hk
  | ret r h' lo' =>
    cases r with
    | pan v => cases hk
    | ok v =>
      cases v <;> simp only at hk <;> first
        | cases hk; done
        | (obtain rfl := hk; exact ⟨h', hg.1⟩)
end Go.Arm

/- The abstract machine: calls that leave memory as it was. -/
namespace Go.Arm
variable {P : Program}

theorem ObjRel.back {μ μ' : Mu} (hle : μ.le μ') {id : Nat} {o : AObj} {co : Obj} (hid : μ.dom id) (r : ObjRel μ' id o co) (d : ObjDom μ.dom o) : ObjRel μ id o co := by
  cases o with
  | cells cs es =>
    obtain ⟨c, elem, fr, rfl, hd, hs, hc, hf⟩ := r
    rw [hle.sh _ hid, hle.slack _ hid] at hs
    rw [hle.sh _ hid] at hc hf
    exact ⟨c, elem, fr, rfl, d, hs, fun i v hv => by rw [hc i v hv, conc_le hle v (DomL_all.1 d v (List.mem_of_getElem? hv))], hf⟩
  | map es clock =>
    obtain ⟨rfl, hd⟩ := r
    refine ⟨?_, d⟩
    congr 2
    apply List.map_congr_left
    intro e he
    simp only [concE, conc_le hle _ (d e he).1, conc_le hle _ (d e he).2]
  | mapIter m since seen last =>
    obtain ⟨rfl, hd, hs⟩ := r
    rw [hle.sh _ hid] at hs
    refine ⟨?_, d, hs⟩
    cases m with
    | none => rfl
    | some r => simp only [Option.map_some]; rw [hle.blk _ (d r rfl)]
  | loop st pend fn tm k params assign body defers =>
    obtain ⟨hdd, hd, tmps, hn, ht, rfl⟩ := r
    exact ⟨d.1, d.2, tmps, hn, fun j => by rw [ht j, conc_le hle _ (d.2 j)], by rw [hle.blk _ d.1]⟩
  | deferred ds =>
    obtain ⟨rfl, hd⟩ := r
    refine ⟨?_, d⟩
    cases ds with
    | none => rfl
    | some l =>
      simp only [Option.map_some]
      congr 2
      exact List.map_congr_left fun e he => concD_le hle e (d l rfl e he)

/-- Back to a part of what is placed. -/
theorem Adv.back {μ μ1 : Mu} {h h1 h2 : H} {w w1 : World} (r : Rel μ h w) (a : Adv μ h w μ1 h1 w1) (hg : ∀ id, μ.dom id → h2.get id = h.get id) (hu : ∀ id, μ.dom id → h1.get id = h.get id) (hn : h2.nx = h.nx) : Adv μ h w μ h2 w1 where
  rel := ⟨fun id d => ⟨by rw [hn]; exact (r.lt id d).1, by rw [← a.le.blk id d]; exact (a.rel.lt id (a.le.dom id d)).2⟩,
    fun id o d e => by
      rw [hg id d] at e
      obtain ⟨co0, _, hr0⟩ := r.obj id o d e
      obtain ⟨co, h1, h2⟩ := a.rel.obj id o (a.le.dom id d) (by rw [hu id d]; exact e)
      rw [a.le.blk id d] at h1
      exact ⟨co, h1, h2.back a.le d hr0.dom⟩,
    fun i j di dj li lj e => r.inj i j di dj (by rw [← hg i di]; exact li) (by rw [← hg j dj]; exact lj) e⟩
  le := Mu.le.refl μ
  nx := by rw [hn]; exact Nat.le_refl _
  new := fun id => ⟨.inl, fun k => k.elim (fun k => k) fun k => absurd k.2 (by omega)⟩
  size := a.size
  os := a.os
  tape := a.tape
  output := a.output
  frame := a.frame
  img := fun id d l => .inl ⟨id, d, by rw [← hg id d]; exact l, rfl⟩

mutual
/-- A value that names no block. -/
def flatV : AV → Bool
  | .b _ => true
  | .i _ _ => true
  | .s l => l.all fun c => Nat.blt c 256
  | .pn => true
  | .sn => true
  | .mn => true
  | .fnil => true
  | .ifn => true
  | .f (.func _) a b => flatL a && flatL b
  | .ifc _ v => flatV v
  | .agg l => flatL l
  | .tup l => flatL l
  | _ => false
def flatL : List AV → Bool
  | [] => true
  | v :: l => flatV v && flatL l
end

mutual
theorem flatV_dom : ∀ {v : AV}, flatV v = true → ∀ (D : Nat → Prop), Dom D v
  | .s l, h, D => by
    simp only [flatV, List.all_eq_true] at h
    simp only [Dom]
    exact fun c hc => Nat.le_of_ble_eq_true (h c hc)
  | .f fn a b, h, D => by
    cases fn <;> simp only [flatV, Bool.and_eq_true] at h <;> first
      | (cases h; done)
      | (simp only [Dom, DomFn, true_and]; exact ⟨flatL_dom h.1 D, flatL_dom h.2 D⟩)
  | .ifc _ v, h, D => by simp only [flatV] at h; simp only [Dom]; exact flatV_dom h D
  | .agg l, h, D => by simp only [flatV] at h; simp only [Dom]; exact flatL_dom h D
  | .tup l, h, D => by simp only [flatV] at h; simp only [Dom]; exact flatL_dom h D
  | .b _, _, _ | .i _ _, _, _ | .pn, _, _ | .sn, _, _ | .mn, _, _ | .fnil, _, _ | .ifn, _, _ => by simp only [Dom]
theorem flatL_dom : ∀ {l : List AV}, flatL l = true → ∀ (D : Nat → Prop), DomL D l
  | [], _, _ => by simp only [DomL]
  | v :: l, h, D => by
    simp only [flatL, Bool.and_eq_true] at h
    simp only [DomL]
    exact ⟨flatV_dom h.1 D, flatL_dom h.2 D⟩
end

mutual
theorem flatV_conc : ∀ {v : AV}, flatV v = true → ∀ (μ μ' : Mu), conc μ v = conc μ' v
  | .s _, _, _, _ => rfl
  | .f fn a b, h, μ, μ' => by
    cases fn <;> simp only [flatV, Bool.and_eq_true] at h <;> first
      | (cases h; done)
      | (simp only [conc, concFn]; rw [flatL_conc h.1 μ μ', flatL_conc h.2 μ μ'])
  | .ifc _ v, h, μ, μ' => by simp only [flatV] at h; simp only [conc]; rw [flatV_conc h μ μ']
  | .agg l, h, μ, μ' => by simp only [flatV] at h; simp only [conc]; rw [flatL_conc h μ μ']
  | .tup l, h, μ, μ' => by simp only [flatV] at h; simp only [conc]; rw [flatL_conc h μ μ']
  | .b _, _, _, _ | .i _ _, _, _, _ | .pn, _, _, _ | .sn, _, _, _ | .mn, _, _, _ | .fnil, _, _, _ | .ifn, _, _, _ => rfl
theorem flatL_conc : ∀ {l : List AV}, flatL l = true → ∀ (μ μ' : Mu), concL μ l = concL μ' l
  | [], _, _, _ => rfl
  | v :: l, h, μ, μ' => by
    simp only [flatL, Bool.and_eq_true] at h
    simp only [concL]
    rw [flatV_conc h.1 μ μ', flatL_conc h.2 μ μ']
end

/-- A call that changes no old block and gives a plain value leaves memory as it was: at any memory that holds what it was shown at. -/
theorem SemCall.pure {g : FuncId} {args : List AV} {h h1 h2 : H} {v : AV} (c : SemCall P g args h (.ok v) h1) (hv : flatV v = true) (hu : ∀ id, id < h.nx → h1.get id = h.get id) : SemCall P g args h (.ok v) h := by
  intro μ w rel gl da
  obtain ⟨μ1, w1, adv, dv, hs⟩ := c μ w rel gl da
  refine ⟨μ, w1, adv.back rel (fun _ _ => rfl) (fun id d => hu id (rel.lt id d).1) rfl, flatV_dom hv _, fun cs => ?_⟩
  obtain ⟨fr, s, hfn, hl⟩ := hs cs
  refine ⟨fr, s, hfn, ?_⟩
  simpa [ARes.ending, flatV_conc hv μ μ1] using hl
end Go.Arm

/- The abstract machine: calls at a part of memory, and a run that takes calls from a list of proved ones. -/
namespace Go.Arm
variable {P : Program}

/-- A call at a part of memory is one at the whole; whatever is new may be struck behind it. -/
theorem SemCall.frame {g : FuncId} {args : List AV} {h h1 G G1 : H} {r : ARes} (c : SemCall P g args h r h1) (hsub : ∀ id o, h.get id = some o → G.get id = some o)
    (n0 : G.nx = h.nx) (n1 : G1.nx = h1.nx) (hH : ∀ id o, G1.get id = some o → h1.get id = some o ∨ (h.get id = none ∧ G.get id = some o ∧ id < G.nx)) : SemCall P g args G r G1 := by
  intro μ w rel gl da
  have rel' : Rel μ h w := ⟨fun id d => by rw [← n0]; exact rel.lt id d, fun id o d e => rel.obj id o d (hsub id o e), fun i j di dj li lj e => by
    refine rel.inj i j di dj ?_ ?_ e
    · obtain ⟨o, ho⟩ := Option.ne_none_iff_exists'.1 li
      rw [hsub i o ho]; simp
    · obtain ⟨o, ho⟩ := Option.ne_none_iff_exists'.1 lj
      rw [hsub j o ho]; simp⟩
  obtain ⟨μ1, w1, adv, dv, hs⟩ := c μ w rel' gl da
  have old : ∀ id, μ1.dom id → id < G.nx → μ.dom id := fun id d hl => by
    rcases (adv.new id).1 d with d | ⟨h1, _⟩
    · exact d
    · omega
  have live : ∀ id o, h.get id = none → G.get id = some o → μ.dom id → w1.heap[μ.blk id]? = w.heap[μ.blk id]? := fun id o hn hg d =>
    adv.frame _ (rel.lt id d).2 fun j dj lj e => by
      have hj : G.get j ≠ none := by
        obtain ⟨o', ho'⟩ := Option.ne_none_iff_exists'.1 lj
        rw [hsub j o' ho']; simp
      have := rel.inj j id dj d hj (by rw [hg]; simp) e
      subst this
      exact lj hn
  have apart : ∀ i j o, μ1.dom i → h1.get i ≠ none → h.get j = none → G.get j = some o → μ.dom j → μ1.blk i ≠ μ.blk j := fun i j o di li hn hg dj e => by
    rcases adv.img i di li with ⟨k, dk, lk, ek⟩ | hsz
    · have hk : G.get k ≠ none := by
        obtain ⟨o', ho'⟩ := Option.ne_none_iff_exists'.1 lk
        rw [hsub k o' ho']; simp
      have := rel.inj k j dk dj hk (by rw [hg]; simp) (ek.trans e)
      subst this
      exact lk hn
    · have := (rel.lt j dj).2
      omega
  refine ⟨μ1, w1, ⟨⟨fun id d => by rw [n1]; exact adv.rel.lt id d, fun id o d e => ?_, fun i j di dj li lj e => ?_⟩, adv.le, by rw [n0, n1]; exact adv.nx, fun id => by rw [adv.new, n0, n1], adv.size, adv.os, adv.tape, adv.output,
    fun b hb hn => adv.frame b hb fun id d l => hn id d (by
      obtain ⟨o', ho'⟩ := Option.ne_none_iff_exists'.1 l
      rw [hsub id o' ho']; simp), fun id d l => ?_⟩, dv, hs⟩
  · rcases hH id o e with e | ⟨hn, hg, hl⟩
    · exact adv.rel.obj id o d e
    · have d0 := old id d hl
      obtain ⟨co, h1, h2⟩ := rel.obj id o d0 hg
      refine ⟨co, ?_, h2.le adv.le d0⟩
      rw [adv.le.blk id d0, live id o hn hg d0]
      exact h1
  · obtain ⟨oi, hi⟩ := Option.ne_none_iff_exists'.1 li
    obtain ⟨oj, hj⟩ := Option.ne_none_iff_exists'.1 lj
    rcases hH i oi hi with hi | ⟨ni, gi, ki⟩ <;> rcases hH j oj hj with hj | ⟨nj, gj, kj⟩
    · exact adv.rel.inj i j di dj (by rw [hi]; simp) (by rw [hj]; simp) e
    · have dj0 := old j dj kj
      rw [adv.le.blk j dj0] at e
      exact absurd e (apart i j oj di (by rw [hi]; simp) nj gj dj0)
    · have di0 := old i di ki
      rw [adv.le.blk i di0] at e
      exact absurd e.symm (apart j i oi dj (by rw [hj]; simp) ni gi di0)
    · have di0 := old i di ki
      have dj0 := old j dj kj
      rw [adv.le.blk i di0, adv.le.blk j dj0] at e
      exact rel.inj i j di0 dj0 (by rw [gi]; simp) (by rw [gj]; simp) e
  · obtain ⟨o, ho⟩ := Option.ne_none_iff_exists'.1 l
    rcases hH id o ho with ho | ⟨hn, hg, hl⟩
    · rcases adv.img id d (by rw [ho]; simp) with ⟨j, dj, lj, ej⟩ | hsz
      · exact .inl ⟨j, dj, by
          obtain ⟨o', ho'⟩ := Option.ne_none_iff_exists'.1 lj
          rw [hsub j o' ho']; simp, ej⟩
      · exact .inr hsz
    · have d0 := old id d hl
      exact .inl ⟨id, d0, by rw [hg]; simp, (adv.le.blk id d0).symm⟩

/-! ### Values side by side -/

def eqFn : Fn → Fn → Bool
  | .func a, .func b => Nat.beq a b
  | .yield a, .yield b => Nat.beq a b
  | _, _ => false

theorem eqFn_eq {a b : Fn} (h : eqFn a b = true) : a = b := by
  cases a <;> cases b <;> first | (cases h; done) | (simp only [eqFn, Nat.beq_eq] at h; rw [h])

def eqLN : List Nat → List Nat → Bool
  | [], [] => true
  | a :: l, b :: m => match Nat.beq a b with
    | true => eqLN l m
    | false => false
  | _, _ => false

theorem eqLN_eq : ∀ {a b : List Nat}, eqLN a b = true → a = b
  | [], [], _ => rfl
  | [], _ :: _, h => by cases h
  | _ :: _, [], h => by cases h
  | a :: l, b :: m, h => by
    simp only [eqLN] at h
    split at h
    · rename_i e
      rw [Nat.eq_of_beq_eq_true e, eqLN_eq h]
    · cases h

mutual
def eqV : AV → AV → Bool
  | .b x, .b y => x == y
  | .i k n, .i k' n' => decide (k = k') && decide (n = n')
  | .s l, .s m => eqLN l m
  | .p a b, .p a' b' => Nat.beq a a' && Nat.beq b b'
  | .pn, .pn => true
  | .sl a b c d e, .sl a' b' c' d' e' => Nat.beq a a' && Nat.beq b b' && Nat.beq c c' && Nat.beq d d' && (e == e')
  | .sn, .sn => true
  | .m a, .m b => Nat.beq a b
  | .mn, .mn => true
  | .f a b c, .f a' b' c' => eqFn a a' && eqVL b b' && eqVL c c'
  | .fnil, .fnil => true
  | .ifc t v, .ifc t' v' => Nat.beq t t' && eqV v v'
  | .ifn, .ifn => true
  | .agg l, .agg m => eqVL l m
  | .tup l, .tup m => eqVL l m
  | _, _ => false
def eqVL : List AV → List AV → Bool
  | [], [] => true
  | a :: l, b :: m => match eqV a b with
    | true => eqVL l m
    | false => false
  | _, _ => false
end

mutual
theorem eqV_eq : ∀ {a b : AV}, eqV a b = true → a = b
  | .b x, b, h => by
    cases b <;> first | (simp [eqV] at h; done) | (simp only [eqV, beq_iff_eq] at h; rw [h])
  | .i k n, b, h => by
    cases b <;> first | (simp [eqV] at h; done) | (simp only [eqV, Bool.and_eq_true, decide_eq_true_eq] at h; rw [h.1, h.2])
  | .s l, b, h => by
    cases b <;> first | (simp [eqV] at h; done) | (simp only [eqV] at h; rw [eqLN_eq h])
  | .p x y, b, h => by
    cases b <;> first | (simp [eqV] at h; done) | (simp only [eqV, Bool.and_eq_true, Nat.beq_eq] at h; rw [h.1, h.2])
  | .pn, b, h => by cases b <;> first | (simp [eqV] at h; done) | rfl
  | .sl x y z u e, b, h => by
    cases b <;> first | (simp [eqV] at h; done) | (simp only [eqV, Bool.and_eq_true, Nat.beq_eq, beq_iff_eq] at h; rw [h.1.1.1.1, h.1.1.1.2, h.1.1.2, h.1.2, h.2])
  | .sn, b, h => by cases b <;> first | (simp [eqV] at h; done) | rfl
  | .m x, b, h => by
    cases b <;> first | (simp [eqV] at h; done) | (simp only [eqV, Nat.beq_eq] at h; rw [h])
  | .mn, b, h => by cases b <;> first | (simp [eqV] at h; done) | rfl
  | .f x y z, b, h => by
    cases b <;> first | (simp [eqV] at h; done) | (simp only [eqV, Bool.and_eq_true] at h; rw [eqFn_eq h.1.1, eqVL_eq h.1.2, eqVL_eq h.2])
  | .fnil, b, h => by cases b <;> first | (simp [eqV] at h; done) | rfl
  | .ifc t v, b, h => by
    cases b <;> first | (simp [eqV] at h; done) | (simp only [eqV, Bool.and_eq_true, Nat.beq_eq] at h; rw [h.1, eqV_eq h.2])
  | .ifn, b, h => by cases b <;> first | (simp [eqV] at h; done) | rfl
  | .agg l, b, h => by
    cases b <;> first | (simp [eqV] at h; done) | (simp only [eqV] at h; rw [eqVL_eq h])
  | .tup l, b, h => by
    cases b <;> first | (simp [eqV] at h; done) | (simp only [eqV] at h; rw [eqVL_eq h])
theorem eqVL_eq : ∀ {a b : List AV}, eqVL a b = true → a = b
  | [], b, h => by cases b <;> first | rfl | (simp [eqVL] at h; done)
  | x :: l, b, h => by
    cases b with
    | nil => simp [eqVL] at h
    | cons y m =>
      simp only [eqVL] at h
      split at h
      · rename_i e
        rw [eqV_eq e, eqVL_eq h]
      · cases h
end

def eqE : List AEnt → List AEnt → Bool
  | [], [] => true
  | a :: l, b :: m => eqV a.key b.key && eqV a.val b.val && Nat.beq a.born b.born && eqE l m
  | _, _ => false

theorem eqE_eq : ∀ {a b : List AEnt}, eqE a b = true → a = b
  | [], [], _ => rfl
  | [], _ :: _, h => by cases h
  | _ :: _, [], h => by cases h
  | a :: l, b :: m, h => by
    simp only [eqE, Bool.and_eq_true] at h
    obtain ⟨⟨⟨h1, h2⟩, h3⟩, h4⟩ := h
    have := eqV_eq h1
    have := eqV_eq h2
    have := Nat.eq_of_beq_eq_true h3
    rw [eqE_eq h4]
    cases a; cases b
    simp_all

def eqO : AObj → AObj → Bool
  | .cells l n, .cells m k => eqVL l m && Nat.beq n k
  | .map l n, .map m k => eqE l m && Nat.beq n k
  | _, _ => false

theorem eqO_eq {a b : AObj} (h : eqO a b = true) : a = b := by
  cases a <;> cases b <;> first
    | (simp [eqO] at h; done)
    | (simp only [eqO, Bool.and_eq_true, Nat.beq_eq] at h; first | rw [eqVL_eq h.1, h.2] | rw [eqE_eq h.1, h.2])

/-! ### Proved calls -/

noncomputable def setLK {R : Type} (l : List (Nat × AObj)) : T AObj → (T AObj → R) → R :=
  List.rec (motive := fun _ => T AObj → (T AObj → R) → R) (fun t k => k t) (fun e _ ih t k => t.setK (some e.2) e.1 fun t => ih t k) l

noncomputable def setL (l : List (Nat × AObj)) (t : T AObj) : T AObj := l.foldl (fun t e => t.set (some e.2) e.1) t

theorem setLK_eq {R : Type} (l : List (Nat × AObj)) : ∀ (t : T AObj) (k : T AObj → R), setLK l t k = k (setL l t) := by
  induction l with
  | nil => intro t k; rfl
  | cons e l ih =>
    intro t k
    show (t.setK (some e.2) e.1 fun t => setLK l t k) = _
    rw [T.setK_eq, ih]
    rfl

theorem get_setL (l : List (Nat × AObj)) : ∀ (t : T AObj) (id : Nat) (o : AObj), (setL l t).get id = some o → (id, o) ∈ l ∨ ((∀ e ∈ l, e.1 ≠ id) ∧ t.get id = some o) := by
  induction l with
  | nil => intro t id o h; exact .inr ⟨by simp, h⟩
  | cons e l ih =>
    intro t id o h
    rcases ih (t.set (some e.2) e.1) id o h with h | ⟨h1, h2⟩
    · exact .inl (List.mem_cons_of_mem _ h)
    · rw [T.get_set] at h2
      split at h2
      · rename_i hid
        subst hid
        obtain rfl := Option.some.inj h2
        exact .inl (by simp)
      · rename_i hid
        refine .inr ⟨fun e' he' => ?_, h2⟩
        rcases List.mem_cons.1 he' with rfl | he'
        · exact fun c => hid c.symm
        · exact h1 e' he'

/-- A call that is proved: at these objects, with that result and these new objects. -/
structure Fact where
  g : FuncId
  args : List AV
  pre : List (Nat × AObj)
  nx0 : Nat
  v : AV
  news : List (Nat × AObj)
  nx1 : Nat

noncomputable def Fact.h (f : Fact) : H := ⟨setL f.pre .leaf, f.nx0⟩
noncomputable def Fact.h1 (f : Fact) : H := ⟨setL f.news (setL f.pre .leaf), f.nx1⟩

def Fact.Holds (P : Program) (f : Fact) : Prop := SemCall P f.g f.args f.h (.ok f.v) f.h1 ∧ (∃ fn, Func? P f.g fn) ∧ f.nx0 ≤ f.nx1 ∧ ∀ e ∈ f.news, f.nx0 ≤ e.1

/-- Nothing lies from a number on. -/
noncomputable def T.bel {α : Type} (m : Nat) (t : T α) : Nat → Nat → Bool :=
  T.rec (motive := fun _ => Nat → Nat → Bool) (fun _ _ => true)
    (fun o _ _ ihl ihr n s => Bool.rec (motive := fun _ => Bool) false (Bool.rec (motive := fun _ => Bool) false (ihr (Nat.add n (Nat.mul 2 s)) (Nat.mul 2 s)) (ihl (Nat.add n s) (Nat.mul 2 s))) (Option.rec (motive := fun _ => Bool) true (fun _ => Nat.blt n m) o)) t

theorem T.bel_val {α : Type} {m : Nat} (t : T α) : ∀ (n s : Nat) (p : List Bool), t.bel m n s = true → T.getP p t ≠ none → n + s * T.val p < m := by
  induction t with
  | leaf => intro n s p _ h; exact absurd (T.getP_leaf p) h
  | node o l r ihl ihr =>
    intro n s p hb hg
    have hb : (Bool.rec (motive := fun _ => Bool) false (Bool.rec (motive := fun _ => Bool) false (r.bel m (Nat.add n (Nat.mul 2 s)) (Nat.mul 2 s)) (l.bel m (Nat.add n s) (Nat.mul 2 s))) (Option.rec (motive := fun _ => Bool) true (fun _ => Nat.blt n m) o) : Bool) = true := hb
    have h1 : l.bel m (n + s) (2 * s) = true ∧ r.bel m (n + 2 * s) (2 * s) = true ∧ (Option.rec (motive := fun _ => Bool) true (fun _ => Nat.blt n m) o : Bool) = true := by
      cases h1 : (Option.rec (motive := fun _ => Bool) true (fun _ => Nat.blt n m) o : Bool) with
      | false => rw [h1] at hb; cases hb
      | true =>
        rw [h1] at hb
        cases h2 : l.bel m (Nat.add n s) (Nat.mul 2 s) with
        | false => rw [h2] at hb; cases hb
        | true => rw [h2] at hb; exact ⟨rfl, hb, rfl⟩
    cases p with
    | nil =>
      cases o with
      | none => exact absurd rfl hg
      | some x => have := Nat.le_of_ble_eq_true h1.2.2; simp only [T.val]; omega
    | cons b p =>
      cases b with
      | true =>
        have := ihl _ _ p h1.1 hg
        have e : s * T.val (true :: p) = s + 2 * s * T.val p := by simp only [T.val]; rw [Nat.mul_add, Nat.mul_comm 2 s, Nat.mul_assoc]; omega
        omega
      | false =>
        have := ihr _ _ p h1.2.1 hg
        have e : s * T.val (false :: p) = 2 * s + 2 * s * T.val p := by simp only [T.val]; rw [Nat.mul_add, Nat.mul_comm 2 s, Nat.mul_assoc]; omega
        omega

theorem T.bel_get {α : Type} {m : Nat} {t : T α} (h : t.bel m 0 1 = true) {id : Nat} (hg : t.get id ≠ none) : id < m := by
  have := T.bel_val t 0 1 (T.way id) h hg
  rw [T.val_way] at this
  omega

noncomputable def fitsP (h : H) : List (Nat × AObj) → Bool
  | [] => true
  | e :: l => match h.get e.1 with
    | some o => match eqO o e.2 with
      | true => fitsP h l
      | false => false
    | none => false

theorem fitsP_all {h : H} : ∀ {l : List (Nat × AObj)}, fitsP h l = true → ∀ e ∈ l, h.get e.1 = some e.2
  | [], _ => by simp
  | x :: l, hf => by
    simp only [fitsP] at hf
    split at hf
    · rename_i o ho
      split at hf
      · rename_i he
        intro e hm
        rcases List.mem_cons.1 hm with rfl | hm
        · rw [ho, eqO_eq he]
        · exact fitsP_all hf e hm
      · cases hf
    · cases hf

/-- Does a proved call fit? -/
noncomputable def Fact.fits (f : Fact) (args : List AV) (h : H) : Bool := match Nat.beq h.nx f.nx0 with
  | true => match eqVL args f.args with
    | true => match fitsP h f.pre with
      | true => h.t.bel h.nx 0 1
      | false => false
    | false => false
  | false => false

theorem Fact.fits_sound {f : Fact} (hf : f.Holds P) {args : List AV} {h : H} (e : f.fits args h = true) (lo : Nat) :
    SemCall P f.g args h (.ok f.v) ⟨setL f.news h.t, f.nx1⟩ ∧ (∃ fn, Func? P f.g fn) ∧ Lo h lo ⟨setL f.news h.t, f.nx1⟩ lo := by
  unfold Fact.fits at e
  split at e
  · rename_i hn
    split at e
    · rename_i ha
      split at e
      · rename_i hp
        have hn := Nat.eq_of_beq_eq_true hn
        have ha := eqVL_eq ha
        have hp := fitsP_all hp
        subst ha
        obtain ⟨hc, hF, hx, hnew⟩ := hf
        refine ⟨SemCall.frame hc (fun id o hg => ?_) hn rfl (fun id o hg => ?_), hF, by show h.nx ≤ f.nx1; omega, Nat.le_refl _, fun hl id hid => ?_⟩
        · rcases get_setL _ _ _ _ hg with hg | ⟨_, hg⟩
          · exact hp _ hg
          · rw [T.get_leaf] at hg; cases hg
        · rcases get_setL _ _ _ _ hg with hm | ⟨hm, hg⟩
          · left
            cases h1 : f.h1.get id with
            | none =>
              exfalso
              have : ∀ (l : List (Nat × AObj)) (t : T AObj), (id, o) ∈ l → (setL l t).get id ≠ none := by
                intro l
                induction l with
                | nil => intro t hm; cases hm
                | cons x l ih =>
                  intro t hm
                  by_cases hx : ∃ y, (id, y) ∈ l
                  · obtain ⟨y, hy⟩ := hx
                    clear ih hm
                    have go : ∀ (l : List (Nat × AObj)) (t : T AObj), (t.get id ≠ none ∨ ∃ y, (id, y) ∈ l) → (setL l t).get id ≠ none := by
                      intro l
                      induction l with
                      | nil => intro t h; exact h.elim (fun h => h) fun ⟨y, h⟩ => by cases h
                      | cons x l ih =>
                        intro t h
                        refine ih _ ?_
                        rcases h with h | ⟨y, h⟩
                        · left
                          rw [T.get_set]
                          split
                          · simp
                          · exact h
                        · rcases List.mem_cons.1 h with rfl | h
                          · left; rw [T.get_set]; simp
                          · exact .inr ⟨y, h⟩
                    exact go _ _ (.inr ⟨y, List.mem_cons_of_mem _ hy⟩)
                  · rcases List.mem_cons.1 hm with rfl | hm
                    · have go : ∀ (l : List (Nat × AObj)) (t : T AObj), t.get id ≠ none → (setL l t).get id ≠ none := by
                        intro l
                        induction l with
                        | nil => intro t h; exact h
                        | cons x l ih =>
                          intro t h
                          refine ih _ ?_
                          rw [T.get_set]
                          split
                          · simp
                          · exact h
                      exact go l (t.set (some o) id) (by rw [T.get_set]; simp)
                    · exact absurd ⟨o, hm⟩ hx
              exact this _ _ hm h1
            | some o' =>
              have : ∀ (l : List (Nat × AObj)) (t t' : T AObj), (∃ y, (id, y) ∈ l) → (setL l t).get id = (setL l t').get id := by
                intro l
                induction l with
                | nil => intro t t' h; obtain ⟨y, h⟩ := h; cases h
                | cons x l ih =>
                  intro t t' h
                  by_cases hx : ∃ y, (id, y) ∈ l
                  · exact ih _ _ hx
                  · obtain ⟨y, h⟩ := h
                    rcases List.mem_cons.1 h with rfl | h
                    · have go : ∀ (l : List (Nat × AObj)) (t t' : T AObj), t.get id = t'.get id → (setL l t).get id = (setL l t').get id := by
                        intro l
                        induction l with
                        | nil => intro t t' h; exact h
                        | cons x l ih =>
                          intro t t' h
                          refine ih _ _ ?_
                          rw [T.get_set, T.get_set]
                          split
                          · rfl
                          · exact h
                      exact go l (t.set (some y) id) (t'.set (some y) id) (by rw [T.get_set, T.get_set]; simp)
                    · exact absurd ⟨y, h⟩ hx
              have h2 := this f.news h.t (setL f.pre .leaf) ⟨o, hm⟩
              rw [← h1]
              show (setL f.news (setL f.pre .leaf)).get id = some o
              rw [← h2]
              exact hg
          · have hb := T.bel_get e (by rw [hg]; simp)
            cases h0 : f.h.get id with
            | none => exact .inr ⟨rfl, hg, hb⟩
            | some o' =>
              left
              have ho' : o' = o := by
                rcases get_setL _ _ _ _ h0 with hm' | ⟨_, hm'⟩
                · have := hp _ hm'
                  have e1 : h.get id = some o := hg
                  rw [e1] at this
                  exact (Option.some.inj this).symm
                · rw [T.get_leaf] at hm'; cases hm'
              subst ho'
              have go : ∀ (l : List (Nat × AObj)) (t : T AObj), (∀ e ∈ l, e.1 ≠ id) → (setL l t).get id = t.get id := by
                intro l
                induction l with
                | nil => intro t _; rfl
                | cons x l ih =>
                  intro t h
                  show (setL l (t.set (some x.2) x.1)).get id = _
                  rw [ih _ fun e he => h e (List.mem_cons_of_mem _ he), T.get_set, if_neg fun c => h x (by simp) c.symm]
              show (setL f.news (setL f.pre .leaf)).get id = some _
              rw [go _ _ hm]
              exact h0
        · have go : ∀ (l : List (Nat × AObj)) (t : T AObj), (∀ e ∈ l, e.1 ≠ id) → (setL l t).get id = t.get id := by
            intro l
            induction l with
            | nil => intro t _; rfl
            | cons x l ih =>
              intro t h
              show (setL l (t.set (some x.2) x.1)).get id = _
              rw [ih _ fun e he => h e (List.mem_cons_of_mem _ he), T.get_set, if_neg fun c => h x (by simp) c.symm]
          exact go _ _ fun e he c => by have := hnew e he; omega
      · cases e
    · cases e
  · cases e

/-! ### A run that takes calls from a list -/

noncomputable def orcF (P : Program) (F : List Fact) (ih : Job → (Out → Bool) → Bool) (g : FuncId) (args : List AV) (h : H) (lo : Nat) (k : Out → Bool) : Bool :=
  List.rec (motive := fun _ => Bool) (callF P ih g args h lo k)
    (fun f _ rest => Bool.rec (motive := fun _ => Bool) rest (Bool.rec (motive := fun _ => Bool) rest (setLK f.news h.t fun t => k (.ret (.ok f.v) ⟨t, f.nx1⟩ lo)) (f.fits args h)) (Nat.beq f.g g)) F

theorem orcF_sound (hm : Plain P) {F : List Fact} (hF : ∀ f ∈ F, f.Holds P) {ih : Job → (Out → Bool) → Bool} (hs : Snd P ih) {g : FuncId} {args : List AV} {h : H} {lo : Nat} {k : Out → Bool} (e : orcF P F ih g args h lo k = true) :
    ∃ r h' lo', SemCall P g args h r h' ∧ (∃ fn, Func? P g fn) ∧ Lo h lo h' lo' ∧ k (.ret r h' lo') = true := by
  induction F with
  | nil => exact callF_sound hm hs e
  | cons f F ih1 =>
    have e : (Bool.rec (motive := fun _ => Bool) (orcF P F ih g args h lo k) (Bool.rec (motive := fun _ => Bool) (orcF P F ih g args h lo k) (setLK f.news h.t fun t => k (.ret (.ok f.v) ⟨t, f.nx1⟩ lo)) (f.fits args h)) (Nat.beq f.g g) : Bool) = true := e
    have rest := ih1 fun f hf => hF f (List.mem_cons_of_mem _ hf)
    cases hg : Nat.beq f.g g with
    | false => rw [hg] at e; exact rest e
    | true =>
      rw [hg] at e
      cases hfit : f.fits args h with
      | false => rw [hfit] at e; exact rest e
      | true =>
        rw [hfit] at e
        have e : setLK f.news h.t (fun t => k (.ret (.ok f.v) ⟨t, f.nx1⟩ lo)) = true := e
        rw [setLK_eq] at e
        have e' := e
        clear e
        have hg := Nat.eq_of_beq_eq_true hg
        subst hg
        obtain ⟨h1, h2, h3⟩ := Fact.fits_sound (hF f (by simp)) hfit lo
        exact ⟨_, _, _, h1, h2, h3, e'⟩

noncomputable def evO (P : Program) (F : List Fact) (fuel : Nat) : Job → (Out → Bool) → Bool :=
  Nat.rec (motive := fun _ => Job → (Out → Bool) → Bool) (fun _ _ => false) (fun _ ih j k => match j with
    | .call g args h lo => orcF P F ih g args h lo k
    | j => evF P ih j k) fuel

theorem evO_sound (hm : Plain P) {F : List Fact} (hF : ∀ f ∈ F, f.Holds P) (fuel : Nat) : Snd P (evO P F fuel) := by
  induction fuel with
  | zero => intro j k e; cases e
  | succ fuel ih =>
    intro j k e
    cases j with
    | call g args h lo =>
      obtain ⟨r, h', lo', s, f, l, hk⟩ := orcF_sound hm hF ih e
      exact ⟨.ret r h' lo', ⟨s, f, l⟩, hk⟩
    | code => exact evF_sound hm ih _ _ e
    | loop => exact evF_sound hm ih _ _ e
    | leave => exact evF_sound hm ih _ _ e
    | dcall => exact evF_sound hm ih _ _ e
    | round => exact evF_sound hm ih _ _ e

/-- What is new is as said. -/
noncomputable def newsOK (h : H) (n : Nat) : List (Nat × AObj) → Bool
  | [] => true
  | e :: l => match Nat.ble n e.1 with
    | true => match h.get e.1 with
      | some o => match eqO o e.2 with
        | true => newsOK h n l
        | false => false
      | none => false
    | false => false

theorem newsOK_all {h : H} {n : Nat} : ∀ {l : List (Nat × AObj)}, newsOK h n l = true → ∀ e ∈ l, n ≤ e.1 ∧ h.get e.1 = some e.2
  | [], _ => by simp
  | x :: l, hf => by
    simp only [newsOK] at hf
    split at hf
    · rename_i hb
      split at hf
      · rename_i o ho
        split at hf
        · rename_i he
          intro e hm
          rcases List.mem_cons.1 hm with rfl | hm
          · exact ⟨Nat.le_of_ble_eq_true hb, by rw [ho, eqO_eq he]⟩
          · exact newsOK_all hf e hm
        · cases hf
      · cases hf
    · cases hf

noncomputable def Fact.check (P : Program) (F : List Fact) (fuel : Nat) (f : Fact) : Bool :=
  match f.pre.all fun e => Nat.blt e.1 f.nx0 with
  | true => setLK f.pre .leaf fun t => evO P F fuel (.call f.g f.args ⟨t, f.nx0⟩ f.nx0) fun out => match out with
    | .ret r h' lo => match r with
      | .ok v => match eqV v f.v with
        | true => match Nat.beq h'.nx f.nx1 with
          | true => match Nat.beq lo f.nx0 with
            | true => newsOK h' f.nx0 f.news
            | false => false
          | false => false
        | false => false
      | .pan _ => false
    | _ => false
  | false => false

theorem Fact.of_check (hm : Plain P) {F : List Fact} (hF : ∀ f ∈ F, f.Holds P) {fuel : Nat} {f : Fact} (e : f.check P F fuel = true) : f.Holds P := by
  unfold Fact.check at e
  split at e
  · rename_i hpre
    rw [setLK_eq] at e
    obtain ⟨out, hg, hk⟩ := evO_sound hm hF fuel _ _ e
    cases out with
    | code => cases hk
    | pan => cases hk
    | ret r h' lo =>
      cases r with
      | pan v => cases hk
      | ok v =>
        simp only at hk
        split at hk
        · rename_i hv
          split at hk
          · rename_i hn
            split at hk
            · rename_i hl
              have hv := eqV_eq hv
              have hn := Nat.eq_of_beq_eq_true hn
              have hl := Nat.eq_of_beq_eq_true hl
              have hk := newsOK_all hk
              subst hv
              obtain ⟨hc, hF', hlo⟩ := hg
              have hlo3 := hlo.2.2 (Nat.le_refl _)
              rw [hl] at hlo3
              refine ⟨SemCall.frame (G := f.h) (G1 := f.h1) hc (fun id o h => h) rfl hn.symm (fun id o hg => .inl ?_), hF', by rw [← hn]; exact hlo.1, fun e he => (hk e he).1⟩
              rcases get_setL _ _ _ _ hg with hm' | ⟨hm', hg'⟩
              · exact (hk _ hm').2
              · have : id < f.nx0 := by
                  rcases get_setL _ _ _ _ hg' with hm2 | ⟨_, hm2⟩
                  · exact Nat.le_of_ble_eq_true (List.all_eq_true.1 hpre _ hm2)
                  · rw [T.get_leaf] at hm2; cases hm2
                rw [hlo3 id this]
                exact hg'
            · cases hk
          · cases hk
        · cases hk
  · cases e

/-- A closed function that gives 'true', by proved calls. -/
noncomputable def saysO (P : Program) (F : List Fact) (fuel : Nat) (g : FuncId) : Bool :=
  evO P F fuel (.call g [] ⟨.leaf, 0⟩ 0) fun out => match out with
    | .ret r _ _ => match r with
      | .ok v => match v with
        | .b t => t
        | _ => false
      | .pan _ => false
    | _ => false

theorem saysO_sound (hm : Plain P) {F : List Fact} (hF : ∀ f ∈ F, f.Holds P) {fuel : Nat} {g : FuncId} (e : saysO P F fuel g = true) : ∃ h', SemCall P g [] ⟨.leaf, 0⟩ (.ok (.b true)) h' := by
  obtain ⟨out, hg, hk⟩ := evO_sound hm hF fuel _ _ e
  cases out with
  | code => cases hk
  | pan => cases hk
  | ret r h' lo' =>
    cases r with
    | pan v => cases hk
    | ok v =>
      cases v <;> simp only at hk <;> first
        | cases hk; done
        | (obtain rfl := hk; exact ⟨h', hg.1⟩)
end Go.Arm

/- The abstract machine: a closed function that gives true, as the kit's own words have it. -/
namespace Go.Arm
variable {P : Program}

/-- Memory in which nothing is known but that package variables lie there. -/
noncomputable def bare (P : Program) : H := ⟨.leaf, P.globals.size⟩

theorem calls_true {g : FuncId} {h' : H} (c : SemCall P g [] (bare P) (.ok (.b true)) h') (w : World) (hw : P.globals.size ≤ w.heap.size) :
    Calls P g #[] w fun e w' => e = .returned (.bool true) ∧ w.keptBut w' (fun _ => False) := by
  intro cs
  have none : ∀ id, (bare P).get id = none := fun id => T.get_leaf id
  have rel : Rel ⟨fun id => id < P.globals.size, fun id => id, fun _ => 0, fun _ => 0⟩ (bare P) w :=
    ⟨fun id d => ⟨d, Nat.lt_of_lt_of_le d hw⟩, fun id o _ e => (by rw [none] at e; cases e), fun i j _ _ l => absurd (none i) l⟩
  obtain ⟨μ', w', adv, _, hs⟩ := c _ w rel (fun g hg => ⟨hg, rfl, rfl⟩) (by simp [DomL])
  obtain ⟨fr, s, hfn, hl⟩ := hs cs
  refine ⟨.returned (.bool true), w', fr, ⟨rfl, adv.os, adv.output, fun i hi => ?_⟩, by simpa [Comes, concL] using s, hfn, by simpa [ARes.ending, conc] using hl⟩
  have e := adv.frame i hi fun id _ l => absurd (none id) l
  rw [e]
  exact (World.keptBut_refl w (fun _ => False)).2.2 i hi

open ChangeShapes in
/-- The answer of a law without arguments. -/
theorem post_true {H : Type} {enc : TypeId × Value → H} {f : Func} {s : ChangeSpec} {apart fresh handsOn : Bool} {W W' : World} {args : Array Value} {v : Value} {ds gs : List (DataW H)} {before : List MemPlace}
    (hW : DataW.Whole enc P f.params.toList s.vars apart W args.toList ds gs before)
    (hres : ∀ (b : Nat) (sp : Nat → Bool) (hd : Bool), DataW.TrodAll enc P W' b sp hd f.resultTypes.toList (v.resultList f.resultTypes.size) (s.fn H (ds ++ gs)).results [])
    (hp : f.params = #[]) (ha : (s.fn H (ds ++ gs)).args = []) (hv : s.vars = []) (hv' : (s.fn H (ds ++ gs)).vars = []) (hargs : args = #[]) (hk : W.keptBut W' (fun _ => False)) :
    s.post enc P f apart fresh handsOn false W args v W' := by
  refine ⟨ds, gs, before, [], [], [], hW, hres _ _ _, ?_, ?_, World.keptBut_mono (fun p hp => hp.elim) hk, fun c => by cases c⟩
  · rw [hp, ha, hargs]
    simp [DataW.TrodAll]
  · rw [hv, hv']
    simp [DataW.TrodVars]
end Go.Arm

/-! ### Worlds for witnesses -/
namespace Go.Arm
mutual
/-- A plain datum's cells. -/
def flat : DataW Unit → List Value
  | .lit (.int k n) => [.int k n]
  | .lit (.bool b) => [.bool b]
  | .lit (.string l) => [.string ⟨l.toArray⟩]
  | .agg l => flatAll l
  | _ => []
def flatAll : List (DataW Unit) → List Value
  | [] => []
  | d :: r => flat d ++ flatAll r
end

/-- A world in which a block's cells are these. -/
def layC (n : Nat) (cs : Array Value) (w : World) : World :=
  { w with heap := w.heap.modify n fun
      | .cells _ t fr => .cells cs t fr
      | o => o }
end Go.Arm

/- The abstract machine: a call that leaves memory as it was, at other places of memory. -/
namespace Go.Arm
variable {P : Program}

/-! ### Names of blocks changed -/

def renF (r : Nat → Nat) : Fn → Fn
  | .yield l => .yield (r l)
  | f => f

mutual
def renV (r : Nat → Nat) : AV → AV
  | .p a b => .p (r a) b
  | .sl a b c d e => .sl (r a) b c d e
  | .m a => .m (r a)
  | .f fn first cap => .f (renF r fn) (renL r first) (renL r cap)
  | .ifc t v => .ifc t (renV r v)
  | .agg l => .agg (renL r l)
  | .tup l => .tup (renL r l)
  | .b x => .b x
  | .i k n => .i k n
  | .s l => .s l
  | .pn => .pn
  | .sn => .sn
  | .mn => .mn
  | .fnil => .fnil
  | .ifn => .ifn
def renL (r : Nat → Nat) : List AV → List AV
  | [] => []
  | v :: l => renV r v :: renL r l
end

theorem renL_map (r : Nat → Nat) (l : List AV) : renL r l = l.map (renV r) := by
  induction l with
  | nil => rfl
  | cons v l ih => simp [renL, ih]

def Mu.back (μ : Mu) (r : Nat → Nat) (L : Nat → Prop) : Mu where
  dom id := L id ∧ μ.dom (r id)
  blk id := μ.blk (r id)
  sh id := μ.sh (r id)
  slack id := μ.slack (r id)

theorem concFn_ren (μ : Mu) (r : Nat → Nat) (L : Nat → Prop) (f : Fn) : concFn (μ.back r L) f = concFn μ (renF r f) := by cases f <;> rfl

mutual
theorem conc_ren (μ : Mu) (r : Nat → Nat) (L : Nat → Prop) : ∀ v : AV, conc (μ.back r L) v = conc μ (renV r v)
  | .p _ _ => rfl
  | .sl _ _ _ _ _ => rfl
  | .m _ => rfl
  | .f fn first cap => by simp only [conc, renV, concFn_ren μ r L fn, concL_ren μ r L first, concL_ren μ r L cap]
  | .ifc _ v => by simp only [conc, renV, conc_ren μ r L v]
  | .agg l => by simp only [conc, renV, concL_ren μ r L l]
  | .tup l => by simp only [conc, renV, concL_ren μ r L l]
  | .b _ | .i _ _ | .s _ | .pn | .sn | .mn | .fnil | .ifn => rfl
theorem concL_ren (μ : Mu) (r : Nat → Nat) (L : Nat → Prop) : ∀ l : List AV, concL (μ.back r L) l = concL μ (renL r l)
  | [] => rfl
  | v :: l => by simp only [concL, renL, conc_ren μ r L v, concL_ren μ r L l]
end

theorem domFn_ren {μ : Mu} {r : Nat → Nat} {L : Nat → Prop} {f : Fn} (h : DomFn L f) : DomFn (μ.back r L).dom f ↔ DomFn μ.dom (renF r f) := by
  cases f <;> simp only [DomFn, renF, Mu.back] at h ⊢
  exact ⟨fun x => x.2, fun x => ⟨h, x⟩⟩

mutual
theorem dom_ren {μ : Mu} {r : Nat → Nat} {L : Nat → Prop} : ∀ v : AV, Dom L v → (Dom (μ.back r L).dom v ↔ Dom μ.dom (renV r v))
  | .p _ _, h => by simp only [Dom, renV, Mu.back] at h ⊢; exact ⟨fun x => x.2, fun x => ⟨h, x⟩⟩
  | .sl _ _ _ _ _, h => by simp only [Dom, renV, Mu.back] at h ⊢; exact ⟨fun x => x.2, fun x => ⟨h, x⟩⟩
  | .m _, h => by simp only [Dom, renV, Mu.back] at h ⊢; exact ⟨fun x => x.2, fun x => ⟨h, x⟩⟩
  | .f fn first cap, h => by
    simp only [Dom, renV] at h ⊢
    rw [domFn_ren h.1, domL_ren first h.2.1, domL_ren cap h.2.2]
  | .ifc _ v, h => by simp only [Dom, renV] at h ⊢; exact dom_ren v h
  | .agg l, h => by simp only [Dom, renV] at h ⊢; exact domL_ren l h
  | .tup l, h => by simp only [Dom, renV] at h ⊢; exact domL_ren l h
  | .b _, _ | .i _ _, _ | .s _, _ | .pn, _ | .sn, _ | .mn, _ | .fnil, _ | .ifn, _ => by simp only [Dom, renV]
theorem domL_ren {μ : Mu} {r : Nat → Nat} {L : Nat → Prop} : ∀ l : List AV, DomL L l → (DomL (μ.back r L).dom l ↔ DomL μ.dom (renL r l))
  | [], _ => by simp only [DomL, renL]
  | v :: l, h => by
    simp only [DomL, renL] at h ⊢
    rw [dom_ren v h.1, domL_ren l h.2]
end

def renE (r : Nat → Nat) (e : AEnt) : AEnt := ⟨renV r e.key, renV r e.val, e.born⟩

def renO (r : Nat → Nat) : AObj → AObj
  | .cells l n => .cells (renL r l) n
  | .map es c => .map (es.map (renE r)) c
  | o => o

def plainO : AObj → Bool
  | .cells _ _ => true
  | .map _ _ => true
  | _ => false

theorem objRel_ren {μ : Mu} {r : Nat → Nat} {L : Nat → Prop} {id : Nat} {o : AObj} {co : Obj} (hp : plainO o = true) (hd : ObjDom L o) : ObjRel (μ.back r L) id o co ↔ ObjRel μ (r id) (renO r o) co := by
  cases o with
  | cells cs es =>
    have hd : DomL L cs := hd
    simp only [ObjRel, renO]
    have e1 : (μ.back r L).sh id = μ.sh (r id) := rfl
    have e2 : (μ.back r L).slack id = μ.slack (r id) := rfl
    rw [e1, e2]
    have key : ∀ c : Array Value, ((∀ i v, cs[i]? = some v → c[μ.sh (r id) + i]? = some (conc (μ.back r L) v)) ↔ (∀ i v, (renL r cs)[i]? = some v → c[μ.sh (r id) + i]? = some (conc μ v))) := fun c => by
      rw [renL_map]
      constructor
      · intro h i v hv
        rw [List.getElem?_map, Option.map_eq_some_iff] at hv
        obtain ⟨u, hu, rfl⟩ := hv
        rw [h i u hu, conc_ren]
      · intro h i v hv
        rw [conc_ren]
        exact h i _ (by rw [List.getElem?_map, hv]; rfl)
    have hl : (renL r cs).length = cs.length := by rw [renL_map, List.length_map]
    rw [hl]
    constructor
    · rintro ⟨c, elem, fr, h1, h2, h3, h4, h5⟩
      exact ⟨c, elem, fr, h1, (domL_ren cs hd).1 h2, h3, (key c).1 h4, h5⟩
    · rintro ⟨c, elem, fr, h1, h2, h3, h4, h5⟩
      exact ⟨c, elem, fr, h1, (domL_ren cs hd).2 h2, h3, (key c).2 h4, h5⟩
  | map es clock =>
    have hd : ∀ e ∈ es, Dom L e.key ∧ Dom L e.val := hd
    simp only [ObjRel, renO, List.map_map]
    have e1 : es.map (concE (μ.back r L)) = es.map (concE μ ∘ renE r) := by
      apply List.map_congr_left
      intro e _
      simp [concE, renE, conc_ren]
    rw [e1]
    constructor
    · rintro ⟨h1, h2⟩
      refine ⟨h1, fun e he => ?_⟩
      obtain ⟨e', he', rfl⟩ := List.mem_map.1 he
      exact ⟨(dom_ren _ (hd e' he').1).1 (h2 e' he').1, (dom_ren _ (hd e' he').2).1 (h2 e' he').2⟩
    · rintro ⟨h1, h2⟩
      refine ⟨h1, fun e he => ?_⟩
      have := h2 (renE r e) (List.mem_map.2 ⟨e, he, rfl⟩)
      exact ⟨(dom_ren _ (hd e he).1).2 this.1, (dom_ren _ (hd e he).2).2 this.2⟩
  | mapIter => cases hp
  | loop => cases hp
  | deferred => cases hp

/-- Objects that are in memory. -/
def H.live (h : H) (id : Nat) : Prop := h.get id ≠ none

theorem SemCall.move {g : FuncId} {args0 args : List AV} {h0 h : H} {v : AV} (c : SemCall P g args0 h0 (.ok v) h0) (hv : flatV v = true) (r : Nat → Nat) (hargs : args = renL r args0) (hin : DomL h0.live args0)
    (hobj : ∀ id o, h0.get id = some o → h.get (r id) = some (renO r o) ∧ ObjDom h0.live o ∧ id < h0.nx ∧ plainO o = true) (hinj : ∀ i j, h0.live i → h0.live j → r i = r j → i = j)
    (hgl : P.globals.size ≤ h0.nx) (hr : ∀ g, g < P.globals.size → r g = g) : SemCall P g args h (.ok v) h := by
  intro μ w rel gl da
  subst hargs
  have live : ∀ i, h0.live i → h.get (r i) ≠ none := fun i hi => by
    obtain ⟨o, ho⟩ := Option.ne_none_iff_exists'.1 hi
    rw [(hobj i o ho).1]; simp
  have up : ∀ id, h0.live id → (fun id => h0.live id ∨ id < P.globals.size) id := fun id l => .inl l
  have rel0 : Rel (μ.back r fun id => h0.live id ∨ id < P.globals.size) h0 w := by
    refine ⟨fun id d => ?_, fun id o d e => ?_, fun i j di dj li lj e => hinj i j li lj (rel.inj _ _ di.2 dj.2 (live i li) (live j lj) e)⟩
    · refine ⟨?_, (rel.lt _ d.2).2⟩
      rcases d.1 with d1 | d1
      · obtain ⟨o, ho⟩ := Option.ne_none_iff_exists'.1 d1
        exact (hobj id o ho).2.2.1
      · exact Nat.lt_of_lt_of_le d1 hgl
    · obtain ⟨h1, h2, _, h4⟩ := hobj id o e
      obtain ⟨co, hc, hr⟩ := rel.obj _ _ d.2 h1
      exact ⟨co, hc, (objRel_ren h4 (h2.mono up)).2 hr⟩
  obtain ⟨μ1, w1, adv, _, hs⟩ := c _ w rel0 (fun g hg => by
    obtain ⟨h1, h2, h3⟩ := gl g hg
    have e := hr g hg
    exact ⟨⟨.inr hg, by rw [e]; exact h1⟩, by simp only [Mu.back]; rw [e]; exact h2, by simp only [Mu.back]; rw [e]; exact h3⟩) ((domL_ren args0 (DomL.mono up _ hin)).2 da)
  refine ⟨μ, w1, ⟨⟨fun id d => ⟨(rel.lt id d).1, Nat.lt_of_lt_of_le (rel.lt id d).2 adv.size⟩, fun id o d e => ?_, rel.inj⟩, Mu.le.refl μ, Nat.le_refl _, fun id => ⟨.inl, fun k => k.elim (fun k => k) fun k => absurd k.2 (by omega)⟩,
    adv.size, adv.os, adv.tape, adv.output, fun b hb hn => adv.frame b hb fun id d l => hn (r id) d.2 (live id l), fun id d l => .inl ⟨id, d, l, rfl⟩⟩, flatV_dom hv _, fun cs => ?_⟩
  · by_cases hi : ∃ i, h0.live i ∧ r i = id
    · obtain ⟨i, li, rfl⟩ := hi
      obtain ⟨o0, ho0⟩ := Option.ne_none_iff_exists'.1 li
      obtain ⟨h1, h2, _, h4⟩ := hobj i o0 ho0
      have d0 : (μ.back r fun id => h0.live id ∨ id < P.globals.size).dom i := ⟨.inl li, d⟩
      obtain ⟨co, hc, hr⟩ := adv.rel.obj i o0 (adv.le.dom i d0) ho0
      obtain ⟨co', _, hr'⟩ := rel0.obj i o0 d0 ho0
      rw [adv.le.blk i d0] at hc
      have hr0 := hr.back adv.le d0 hr'.dom
      rw [h1] at e
      obtain rfl := Option.some.inj e
      exact ⟨co, hc, (objRel_ren h4 (h2.mono up)).1 hr0⟩
    · obtain ⟨co, hc, hr⟩ := rel.obj id o d e
      refine ⟨co, ?_, hr⟩
      rw [adv.frame (μ.blk id) (rel.lt id d).2 fun i di li ei => hi ⟨i, li, rel.inj _ _ di.2 d (live i li) (by rw [e]; simp) ei⟩]
      exact hc
  · obtain ⟨fr, s, hfn, hl⟩ := hs cs
    refine ⟨fr, ?_, hfn, ?_⟩
    · rw [← concL_ren μ r (fun id => h0.live id ∨ id < P.globals.size)]
      exact s
    · simpa [ARes.ending, flatV_conc hv μ μ1] using hl

/-! ### The check -/

def lookN : List (Nat × Nat) → Nat → Nat
  | [], _ => 0
  | e :: l, n => match Nat.beq e.1 n with
    | true => e.2
    | false => lookN l n

def idsF : Fn → List Nat
  | .yield l => [l]
  | _ => []

mutual
/-- All names in a value are in a list. -/
def namesIn (l : List Nat) : AV → Bool
  | .p a _ => memN a l
  | .sl a _ _ _ _ => memN a l
  | .m a => memN a l
  | .f fn first cap => (idsF fn).all (fun x => memN x l) && namesInL l first && namesInL l cap
  | .ifc _ v => namesIn l v
  | .agg m => namesInL l m
  | .tup m => namesInL l m
  | .s m => m.all fun c => Nat.blt c 256
  | _ => true
def namesInL (l : List Nat) : List AV → Bool
  | [] => true
  | v :: m => namesIn l v && namesInL l m
end

mutual
theorem namesIn_dom {l : List Nat} {D : Nat → Prop} (hD : ∀ x ∈ l, D x) : ∀ v : AV, namesIn l v = true → Dom D v
  | .p a _, h => by simp only [namesIn] at h; simp only [Dom]; exact hD _ (memN_iff.1 h)
  | .sl a _ _ _ _, h => by simp only [namesIn] at h; simp only [Dom]; exact hD _ (memN_iff.1 h)
  | .m a, h => by simp only [namesIn] at h; simp only [Dom]; exact hD _ (memN_iff.1 h)
  | .f fn first cap, h => by
    simp only [namesIn, Bool.and_eq_true] at h
    simp only [Dom]
    refine ⟨?_, namesInL_dom hD first h.1.2, namesInL_dom hD cap h.2⟩
    cases fn <;> simp only [DomFn]
    exact hD _ (memN_iff.1 (by simpa [idsF] using h.1.1))
  | .ifc _ v, h => by simp only [namesIn] at h; simp only [Dom]; exact namesIn_dom hD v h
  | .agg m, h => by simp only [namesIn] at h; simp only [Dom]; exact namesInL_dom hD m h
  | .tup m, h => by simp only [namesIn] at h; simp only [Dom]; exact namesInL_dom hD m h
  | .s m, h => by
    simp only [namesIn, List.all_eq_true] at h
    simp only [Dom]
    exact fun c hc => Nat.le_of_ble_eq_true (h c hc)
  | .b _, _ | .i _ _, _ | .pn, _ | .sn, _ | .mn, _ | .fnil, _ | .ifn, _ => by simp only [Dom]
theorem namesInL_dom {l : List Nat} {D : Nat → Prop} (hD : ∀ x ∈ l, D x) : ∀ m : List AV, namesInL l m = true → DomL D m
  | [], _ => by simp only [DomL]
  | v :: m, h => by
    simp only [namesInL, Bool.and_eq_true] at h
    simp only [DomL]
    exact ⟨namesIn_dom hD v h.1, namesInL_dom hD m h.2⟩
end

def namesInO (l : List Nat) : AObj → Bool
  | .cells cs _ => namesInL l cs
  | .map es _ => es.all fun e => namesIn l e.key && namesIn l e.val
  | _ => false

theorem namesInO_dom {l : List Nat} {D : Nat → Prop} (hD : ∀ x ∈ l, D x) {o : AObj} (h : namesInO l o = true) : ObjDom D o ∧ plainO o = true := by
  cases o with
  | cells cs _ => exact ⟨namesInL_dom hD cs h, rfl⟩
  | map es _ =>
    refine ⟨fun e he => ?_, rfl⟩
    have := List.all_eq_true.1 h e he
    simp only [Bool.and_eq_true] at this
    exact ⟨namesIn_dom hD _ this.1, namesIn_dom hD _ this.2⟩
  | mapIter => cases h
  | loop => cases h
  | deferred => cases h

/-- Which names stand for which. -/
def pairF (a b : Fn) : List (Nat × Nat) := match a, b with
  | .yield x, .yield y => [(x, y)]
  | _, _ => []
mutual
def pairV : AV → AV → List (Nat × Nat) → List (Nat × Nat)
  | .p a _, .p b _, k => (a, b) :: k
  | .sl a _ _ _ _, .sl b _ _ _ _, k => (a, b) :: k
  | .m a, .m b, k => (a, b) :: k
  | .f fn x y, .f fn' x' y', k => pairF fn fn' ++ pairL x x' (pairL y y' k)
  | .ifc _ v, .ifc _ u, k => pairV v u k
  | .agg l, .agg m, k => pairL l m k
  | .tup l, .tup m, k => pairL l m k
  | _, _, k => k
def pairL : List AV → List AV → List (Nat × Nat) → List (Nat × Nat)
  | a :: l, b :: m, k => pairV a b (pairL l m k)
  | _, _, k => k
end
def pairO : AObj → AObj → List (Nat × Nat) → List (Nat × Nat)
  | .cells l _, .cells m _, k => pairL l m k
  | .map l _, .map m _, k => pairL (l.flatMap fun e => [e.key, e.val]) (m.flatMap fun e => [e.key, e.val]) k
  | _, _, k => k
def hasN (l : List (Nat × Nat)) (n : Nat) : Bool := l.any fun e => Nat.beq e.1 n

noncomputable def matchK (h : H) (pre : T AObj) (fuel : Nat) : List (Nat × Nat) → List (Nat × Nat) → List (Nat × Nat) :=
  Nat.rec (motive := fun _ => List (Nat × Nat) → List (Nat × Nat) → List (Nat × Nat)) (fun _ acc => acc)
    (fun _ ih todo acc => match todo with
      | [] => acc
      | e :: todo => match hasN acc e.1 with
        | true => ih todo acc
        | false => match pre.get e.1, h.get e.2 with
          | some o, some o' => ih (pairO o o' todo) (e :: acc)
          | _, _ => ih todo acc) fuel

def noTwice : List Nat → Bool
  | [] => true
  | a :: l => !memN a l && noTwice l

noncomputable def allAt (h : H) (r : Nat → Nat) : List (Nat × AObj) → Bool
  | [] => true
  | e :: l => match h.get (r e.1) with
    | some o => match eqO o (renO r e.2) with
      | true => allAt h r l
      | false => false
    | none => false

theorem allAt_all {h : H} {r : Nat → Nat} : ∀ {l : List (Nat × AObj)}, allAt h r l = true → ∀ e ∈ l, h.get (r e.1) = some (renO r e.2)
  | [], _ => by simp
  | x :: l, hf => by
    simp only [allAt] at hf
    split at hf
    · rename_i o ho
      split at hf
      · rename_i he
        intro e hm
        rcases List.mem_cons.1 hm with rfl | hm
        · rw [ho, eqO_eq he]
        · exact allAt_all hf e hm
      · cases hf
    · cases hf

/-- A renaming that leaves package variables. -/
def fixN (n : Nat) (m : List (Nat × Nat)) (id : Nat) : Nat := match Nat.blt id n with
  | true => id
  | false => lookN m id

theorem fixN_lt {n : Nat} {m : List (Nat × Nat)} {g : Nat} (h : g < n) : fixN n m g = g := by
  have : Nat.blt g n = true := Nat.ble_eq_true_of_le h
  simp only [fixN, this]

/-- A fact that holds wherever the like lies: it gives a plain value, and names nothing that it does not say. -/
def Fact.pure (f : Fact) : Bool := flatV f.v && namesInL (f.pre.map (·.1)) f.args && f.pre.all (fun e => namesInO (f.pre.map (·.1)) e.2 && Nat.blt e.1 f.nx0) && f.news.isEmpty

noncomputable def Fact.alike (n : Nat) (f : Fact) (args : List AV) (h : H) : Bool :=
  match f.pure && Nat.ble n f.nx0 with
  | true => setLK f.pre .leaf fun t =>
    match matchK h t 1000 (pairL f.args args []) [] with
    | m => match eqVL args (renL (fixN n m) f.args) with
      | true => match noTwice (f.pre.map fun e => fixN n m e.1) with
        | true => allAt h (fixN n m) f.pre
        | false => false
      | false => false
  | false => false

theorem noTwice_inj {r : Nat → Nat} : ∀ {l : List (Nat × AObj)}, noTwice (l.map fun e => r e.1) = true → ∀ a ∈ l, ∀ b ∈ l, r a.1 = r b.1 → a.1 = b.1
  | [], _ => by simp
  | x :: l, h => by
    simp only [List.map_cons, noTwice, Bool.and_eq_true] at h
    have hx : ∀ e ∈ l, r e.1 ≠ r x.1 := fun e he c => by
      have : memN (r x.1) (l.map fun e => r e.1) = true := memN_iff.2 (List.mem_map.2 ⟨e, he, c⟩)
      rw [this] at h
      cases h.1
    intro a ha b hb e
    rcases List.mem_cons.1 ha with ea | ha' <;> rcases List.mem_cons.1 hb with eb | hb'
    · rw [ea, eb]
    · rw [ea] at e; exact absurd e.symm (hx b hb')
    · rw [eb] at e; exact absurd e (hx a ha')
    · exact noTwice_inj h.2 a ha' b hb' e

theorem Fact.alike_sound {f : Fact} (hf : f.Holds P) {args : List AV} {h : H} (e : f.alike P.globals.size args h = true) (lo : Nat) :
    SemCall P f.g args h (.ok f.v) h ∧ (∃ fn, Func? P f.g fn) ∧ Lo h lo h lo := by
  unfold Fact.alike at e
  split at e
  · rename_i hp
    rw [setLK_eq] at e
    generalize hm : matchK h (setL f.pre .leaf) 1000 (pairL f.args args []) [] = m at e
    simp only at e
    split at e
    · rename_i ha
      split at e
      · rename_i hn
        have ha := eqVL_eq ha
        have hall := allAt_all e
        simp only [Fact.pure, Bool.and_eq_true, List.all_eq_true, List.isEmpty_iff] at hp
        obtain ⟨⟨⟨⟨hv, hargs⟩, hpre⟩, hnews⟩, hp2⟩ := hp
        obtain ⟨hc, hF, _, _⟩ := hf
        have liveM : ∀ x, (∃ o, (x, o) ∈ f.pre) → f.h.live x := fun x ⟨o, hx⟩ => by
          have : ∀ (l : List (Nat × AObj)) (t : T AObj), (t.get x ≠ none ∨ ∃ o, (x, o) ∈ l) → (setL l t).get x ≠ none := by
            intro l
            induction l with
            | nil => intro t h; exact h.elim (fun h => h) fun ⟨y, h⟩ => by cases h
            | cons z l ih =>
              intro t h
              refine ih _ ?_
              rcases h with h | ⟨y, h⟩
              · left
                rw [T.get_set]
                split
                · simp
                · exact h
              · rcases List.mem_cons.1 h with rfl | h
                · left; rw [T.get_set]; simp
                · exact .inr ⟨y, h⟩
          exact this _ _ (.inr ⟨o, hx⟩)
        have liveN : ∀ x ∈ f.pre.map (·.1), f.h.live x := fun x hx => by
          obtain ⟨e, he, rfl⟩ := List.mem_map.1 hx
          exact liveM _ ⟨e.2, he⟩
        have memL : ∀ id o, f.h.get id = some o → (id, o) ∈ f.pre := fun id o hg => by
          rcases get_setL _ _ _ _ hg with h | ⟨_, h⟩
          · exact h
          · rw [T.get_leaf] at h; cases h
        have hpure : SemCall P f.g f.args f.h (.ok f.v) f.h := by
          refine SemCall.pure (h2 := f.h) hc hv fun id _ => ?_
          show (setL f.news (setL f.pre .leaf)).get id = _
          rw [hnews]
          rfl
        refine ⟨SemCall.move hpure hv (fixN P.globals.size m) ha (namesInL_dom liveN _ hargs) (fun id o hg => ?_) (fun i j li lj e => ?_) (Nat.le_of_ble_eq_true hp2) (fun g hg => fixN_lt hg), hF, Lo.refl _ _⟩
        · have hmem := memL id o hg
          have h1 := hall _ hmem
          have h2 := hpre _ hmem
          have h3 := namesInO_dom liveN h2.1
          exact ⟨h1, h3.1, Nat.le_of_ble_eq_true h2.2, h3.2⟩
        · obtain ⟨oi, hi⟩ := Option.ne_none_iff_exists'.1 li
          obtain ⟨oj, hj⟩ := Option.ne_none_iff_exists'.1 lj
          exact noTwice_inj hn _ (memL _ _ hi) _ (memL _ _ hj) e
      · cases e
    · cases e
  · cases e
end Go.Arm

/- The abstract machine: a run that takes calls from a list of proved ones, wherever the like lies. -/
namespace Go.Arm
variable {P : Program}

noncomputable def orcR (P : Program) (F : List Fact) (ih : Job → (Out → Bool) → Bool) (g : FuncId) (args : List AV) (h : H) (lo : Nat) (k : Out → Bool) : Bool :=
  List.rec (motive := fun _ => Bool) (callF P ih g args h lo k)
    (fun f _ rest => Bool.rec (motive := fun _ => Bool) rest
      (Bool.rec (motive := fun _ => Bool)
        (Bool.rec (motive := fun _ => Bool) rest (setLK f.news h.t fun t => k (.ret (.ok f.v) ⟨t, f.nx1⟩ lo)) (f.fits args h))
        (Bool.rec (motive := fun _ => Bool) rest (k (.ret (.ok f.v) h lo)) (f.alike P.globals.size args h)) f.pure) (Nat.beq f.g g)) F

theorem orcR_sound (hm : Plain P) {F : List Fact} (hF : ∀ f ∈ F, f.Holds P) {ih : Job → (Out → Bool) → Bool} (hs : Snd P ih) {g : FuncId} {args : List AV} {h : H} {lo : Nat} {k : Out → Bool} (e : orcR P F ih g args h lo k = true) :
    ∃ r h' lo', SemCall P g args h r h' ∧ (∃ fn, Func? P g fn) ∧ Lo h lo h' lo' ∧ k (.ret r h' lo') = true := by
  induction F with
  | nil => exact callF_sound hm hs e
  | cons f F ih1 =>
    have e : (Bool.rec (motive := fun _ => Bool) (orcR P F ih g args h lo k)
      (Bool.rec (motive := fun _ => Bool)
        (Bool.rec (motive := fun _ => Bool) (orcR P F ih g args h lo k) (setLK f.news h.t fun t => k (.ret (.ok f.v) ⟨t, f.nx1⟩ lo)) (f.fits args h))
        (Bool.rec (motive := fun _ => Bool) (orcR P F ih g args h lo k) (k (.ret (.ok f.v) h lo)) (f.alike P.globals.size args h)) f.pure) (Nat.beq f.g g) : Bool) = true := e
    have rest := ih1 fun f hf => hF f (List.mem_cons_of_mem _ hf)
    cases hg : Nat.beq f.g g with
    | false => rw [hg] at e; exact rest e
    | true =>
      rw [hg] at e
      have hg := Nat.eq_of_beq_eq_true hg
      cases hp : f.pure with
      | false =>
        rw [hp] at e
        cases hfit : f.fits args h with
        | false => rw [hfit] at e; exact rest e
        | true =>
          rw [hfit] at e
          have e : setLK f.news h.t (fun t => k (.ret (.ok f.v) ⟨t, f.nx1⟩ lo)) = true := e
          rw [setLK_eq] at e
          have e' := e
          clear e
          subst hg
          obtain ⟨h1, h2, h3⟩ := Fact.fits_sound (hF f (by simp)) hfit lo
          exact ⟨_, _, _, h1, h2, h3, e'⟩
      | true =>
        rw [hp] at e
        cases hfit : f.alike P.globals.size args h with
        | false => rw [hfit] at e; exact rest e
        | true =>
          rw [hfit] at e
          have e' : k (.ret (.ok f.v) h lo) = true := e
          clear e
          subst hg
          obtain ⟨h1, h2, h3⟩ := Fact.alike_sound (hF f (by simp)) hfit lo
          exact ⟨_, _, _, h1, h2, h3, e'⟩

noncomputable def evR (P : Program) (F : List Fact) (fuel : Nat) : Job → (Out → Bool) → Bool :=
  Nat.rec (motive := fun _ => Job → (Out → Bool) → Bool) (fun _ _ => false) (fun _ ih j k => match j with
    | .call g args h lo => orcR P F ih g args h lo k
    | j => evF P ih j k) fuel

theorem evR_sound (hm : Plain P) {F : List Fact} (hF : ∀ f ∈ F, f.Holds P) (fuel : Nat) : Snd P (evR P F fuel) := by
  induction fuel with
  | zero => intro j k e; cases e
  | succ fuel ih =>
    intro j k e
    cases j with
    | call g args h lo =>
      obtain ⟨r, h', lo', s, f, l, hk⟩ := orcR_sound hm hF ih e
      exact ⟨.ret r h' lo', ⟨s, f, l⟩, hk⟩
    | code => exact evF_sound hm ih _ _ e
    | loop => exact evF_sound hm ih _ _ e
    | leave => exact evF_sound hm ih _ _ e
    | dcall => exact evF_sound hm ih _ _ e
    | round => exact evF_sound hm ih _ _ e

noncomputable def Fact.checkR (P : Program) (F : List Fact) (fuel : Nat) (f : Fact) : Bool :=
  match f.pre.all fun e => Nat.blt e.1 f.nx0 with
  | true => setLK f.pre .leaf fun t => evR P F fuel (.call f.g f.args ⟨t, f.nx0⟩ f.nx0) fun out => match out with
    | .ret r h' lo => match r with
      | .ok v => match eqV v f.v with
        | true => match Nat.beq h'.nx f.nx1 with
          | true => match Nat.beq lo f.nx0 with
            | true => newsOK h' f.nx0 f.news
            | false => false
          | false => false
        | false => false
      | .pan _ => false
    | _ => false
  | false => false

theorem Fact.of_checkR (hm : Plain P) {F : List Fact} (hF : ∀ f ∈ F, f.Holds P) {fuel : Nat} {f : Fact} (e : f.checkR P F fuel = true) : f.Holds P := by
  unfold Fact.checkR at e
  split at e
  · rename_i hpre
    rw [setLK_eq] at e
    obtain ⟨out, hg, hk⟩ := evR_sound hm hF fuel _ _ e
    cases out with
    | code => cases hk
    | pan => cases hk
    | ret r h' lo =>
      cases r with
      | pan v => cases hk
      | ok v =>
        simp only at hk
        split at hk
        · rename_i hv
          split at hk
          · rename_i hn
            split at hk
            · rename_i hl
              have hv := eqV_eq hv
              have hn := Nat.eq_of_beq_eq_true hn
              have hl := Nat.eq_of_beq_eq_true hl
              have hk := newsOK_all hk
              subst hv
              obtain ⟨hc, hF', hlo⟩ := hg
              have hlo3 := hlo.2.2 (Nat.le_refl _)
              rw [hl] at hlo3
              refine ⟨SemCall.frame (G := f.h) (G1 := f.h1) hc (fun id o h => h) rfl hn.symm (fun id o hg => .inl ?_), hF', by rw [← hn]; exact hlo.1, fun e he => (hk e he).1⟩
              rcases get_setL _ _ _ _ hg with hm' | ⟨hm', hg'⟩
              · exact (hk _ hm').2
              · have : id < f.nx0 := by
                  rcases get_setL _ _ _ _ hg' with hm2 | ⟨_, hm2⟩
                  · exact Nat.le_of_ble_eq_true (List.all_eq_true.1 hpre _ hm2)
                  · rw [T.get_leaf] at hm2; cases hm2
                rw [hlo3 id this]
                exact hg'
            · cases hk
          · cases hk
        · cases hk
  · cases e

/-- A closed function that gives 'true', by proved calls. -/
noncomputable def saysR (P : Program) (h0 : H) (F : List Fact) (fuel : Nat) (g : FuncId) : Bool :=
  evR P F fuel (.call g [] h0 h0.nx) fun out => match out with
    | .ret r _ _ => match r with
      | .ok v => match v with
        | .b t => t
        | _ => false
      | .pan _ => false
    | _ => false

theorem saysR_sound (hm : Plain P) {F : List Fact} (hF : ∀ f ∈ F, f.Holds P) {fuel : Nat} {g : FuncId} {h0 : H} (e : saysR P h0 F fuel g = true) : ∃ h', SemCall P g [] h0 (.ok (.b true)) h' := by
  obtain ⟨out, hg, hk⟩ := evR_sound hm hF fuel _ _ e
  cases out with
  | code => cases hk
  | pan => cases hk
  | ret r h' lo' =>
    cases r with
    | pan v => cases hk
    | ok v =>
      cases v <;> simp only at hk <;> first
        | cases hk; done
        | (obtain rfl := hk; exact ⟨h', hg.1⟩)

/-- All of a list of facts hold. -/
def AllHold (P : Program) (F : List Fact) : Prop := ∀ f ∈ F, f.Holds P
theorem AllHold.nil : AllHold P [] := by intro f hf; cases hf
theorem AllHold.cons {f : Fact} {F : List Fact} (h : f.Holds P) (hF : AllHold P F) : AllHold P (f :: F) := by
  intro x hx
  rcases List.mem_cons.1 hx with rfl | hx
  · exact h
  · exact hF x hx
end Go.Arm
