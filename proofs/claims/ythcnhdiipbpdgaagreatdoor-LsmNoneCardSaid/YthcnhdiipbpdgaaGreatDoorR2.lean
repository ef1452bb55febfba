/-
  A machine that runs the model with abstract blocks, and lemmas on it: whatever it answers of a call is what the model does (ProgOK, Base: the conditions).
-/
import Derived.Test.YthcnhdiipbpdgaaGreatDoorR1
import Derived.Laws.Cells
import Derived.Laws.World
namespace Go.VmK

def EsRel (η : Env) : List (AV × AV × Nat) → List MapEntry → Prop
  | [], [] => True
  | (k, v, b) :: r, e :: es => conc η k = some e.key ∧ conc η v = some e.val ∧ e.born = b ∧ EsRel η r es
  | _, _ => False

/-- temporaries -/
structure TRel (η : Env) (t : Tr AV) (n : Nat) (c : Array Value) : Prop where
  size : c.size = n
  get : ∀ j v, t.get j = some v → ∃ x, c[j]? = some x ∧ conc η v = some x

structure CRel (P : Program) (η : Env) (id : Nat) (t : Tr AV) (n : Nat) (e : TypeId) (opn : Bool) (lo hi : Nat) (mk : Bool) (c : Array Value) (e' : TypeId) (fz : Nat × Nat) : Prop where
  elem : e' = e
  get : ∀ i v, t.get i = some v → i < n → ∃ x, c[i]? = some x ∧ conc η v = some x
  le : n ≤ c.size
  shut : opn = false → c.size = n
  opened : opn = true → ∃ k, η.κ id = some k ∧ k < 2 ^ 63 ∧ c.size = k * P.cellsOf e
  fzle : fz.1 ≤ fz.2
  cover : ∀ off, fz.1 ≤ off → off < fz.2 → (lo ≤ off ∧ off < hi) ∨ (mk = true ∧ off = c.size)
  small : mk = true → c.size < 18446744073709551615

def ORel (P : Program) (η : Env) (E : List LoopInfo) (id : Nat) : AObj → Obj → Prop
  | .cells t n e opn lo hi mk, .cells c e' fz => CRel P η id t n e opn lo hi mk c e' fz
  | .map es clock, .map ces clock' => clock' = clock ∧ EsRel η es ces.toList
  | .mapIter m s seen st, .mapIter m' s' seen' st' => (match m with | none => m' = none | some i => ∃ r, η.ρ i = some r ∧ m' = some r) ∧ s' = s ∧ seen'.toList = seen ∧ st' = st
  | .striter s p, .stringIter s' p' => s' = ⟨s.toArray⟩ ∧ p' = p
  | .loop st pd, .loop L => L.state = st ∧ L.pending = pd.map Jump.code ∧ ∀ i, findLoop id E = some i → L.fn = i.fn ∧ TRel η i.tmps i.n L.tmps ∧ L.params.toList = i.params ∧ L.assign = i.assign ∧ L.body = i.body ∧ η.ρ i.defers = some L.defers
  | .deferred b, .deferred d => d = if b then some [] else none
  | _, _ => False

structure HRel (P : Program) (η : Env) (E : List LoopInfo) (H : Heap) (w : World) : Prop where
  obj : ∀ id o, H.get id = some o → ∃ b ob, η.ρ id = some b ∧ w.heap[b]? = some ob ∧ ORel P η E id o ob
  inj : ∀ i j oi oj b, H.get i = some oi → H.get j = some oj → η.ρ i = some b → η.ρ j = some b → i = j

structure Fresh (η : Env) (H : Heap) (id : Nat) : Prop where
  get : H.get id = none
  ρ : η.ρ id = none
  κ : η.κ id = none
  σ : η.σ id = none

/-- nothing but the numbers of S has turned -/
structure Only (S : Nat → Prop) (η η' : Env) : Prop where
  ρ : ∀ i, ¬ S i → η'.ρ i = η.ρ i
  κ : ∀ i, ¬ S i → η'.κ i = η.κ i
  σ : ∀ i, ¬ S i → η'.σ i = η.σ i
theorem Only.refl (S : Nat → Prop) (η : Env) : Only S η η := ⟨fun _ _ => rfl, fun _ _ => rfl, fun _ _ => rfl⟩
theorem Only.mono {S T : Nat → Prop} {η η' : Env} (h : Only S η η') (st : ∀ i, S i → T i) : Only T η η' :=
  ⟨fun i x => h.ρ i fun y => x (st i y), fun i x => h.κ i fun y => x (st i y), fun i x => h.σ i fun y => x (st i y)⟩
theorem Only.trans {S : Nat → Prop} {a b c : Env} (h : Only S a b) (g : Only S b c) : Only S a c :=
  ⟨fun i x => (g.ρ i x).trans (h.ρ i x), fun i x => (g.κ i x).trans (h.κ i x), fun i x => (g.σ i x).trans (h.σ i x)⟩

structure Keeps (w w' : World) : Prop where
  os : w'.os = w.os
  output : w'.output = w.output
  size : w.heap.size ≤ w'.heap.size
theorem Keeps.refl (w : World) : Keeps w w := ⟨rfl, rfl, Nat.le_refl _⟩
theorem Keeps.trans {a b c : World} (h : Keeps a b) (g : Keeps b c) : Keeps a c := ⟨g.os.trans h.os, g.output.trans h.output, Nat.le_trans h.size g.size⟩

def Live (η : Env) (H : Heap) (b : Nat) : Prop := ∃ id o, H.get id = some o ∧ η.ρ id = some b

/-- a step of memory -/
structure Trans (P : Program) (E : List LoopInfo) (η : Env) (H : Heap) (w : World) (η' : Env) (H' : Heap) (w' : World) : Prop where
  le : η.le η'
  rel : HRel P η' E H' w'
  frame : ∀ b, b < w.heap.size → ¬ Live η H b → w'.heap[b]? = w.heap[b]?
  shr : ∀ b, b < w.heap.size → Live η' H' b → Live η H b
  keeps : Keeps w w'
theorem Trans.refl {P : Program} {E : List LoopInfo} {η : Env} {H : Heap} {w : World} (h : HRel P η E H w) : Trans P E η H w η H w :=
  ⟨Env.le.refl _, h, fun _ _ _ => rfl, fun _ _ x => x, Keeps.refl _⟩
theorem Trans.trans {P : Program} {E : List LoopInfo} {η η1 η2 : Env} {H H1 H2 : Heap} {w w1 w2 : World} (h : Trans P E η H w η1 H1 w1) (g : Trans P E η1 H1 w1 η2 H2 w2) : Trans P E η H w η2 H2 w2 :=
  ⟨h.le.trans g.le, g.rel, fun b hb hl => (g.frame b (Nat.lt_of_lt_of_le hb h.keeps.size) fun x => hl (h.shr b hb x)).trans (h.frame b hb hl),
   fun b hb x => h.shr b hb (g.shr b (Nat.lt_of_lt_of_le hb h.keeps.size) x), h.keeps.trans g.keeps⟩

/-! monotony -/
theorem EsRel_mono {η η' : Env} (h : η.le η') : ∀ (es : List (AV × AV × Nat)) (ces : List MapEntry), EsRel η es ces → EsRel η' es ces
  | [], [], _ => trivial
  | (_k, _v, _b) :: r, _e :: es, ⟨h1, h2, h3, h4⟩ => ⟨conc_mono h _ _ h1, conc_mono h _ _ h2, h3, EsRel_mono h r es h4⟩
  | [], _ :: _, x => x.elim
  | _ :: _, [], x => x.elim
theorem TRel.mono {η η' : Env} (h : η.le η') {t : Tr AV} {n : Nat} {c : Array Value} (g : TRel η t n c) : TRel η' t n c :=
  ⟨g.size, fun j v hv => let ⟨x, hx, hc⟩ := g.get j v hv; ⟨x, hx, conc_mono h _ _ hc⟩⟩
theorem CRel.mono {P : Program} {η η' : Env} (h : η.le η') {id : Nat} {t : Tr AV} {n : Nat} {e : TypeId} {opn : Bool} {lo hi : Nat} {mk : Bool} {c : Array Value} {e' : TypeId} {fz : Nat × Nat}
    (g : CRel P η id t n e opn lo hi mk c e' fz) : CRel P η' id t n e opn lo hi mk c e' fz :=
  ⟨g.elem, fun i v hv hi => let ⟨x, hx, hc⟩ := g.get i v hv hi; ⟨x, hx, conc_mono h _ _ hc⟩, g.le, g.shut, fun ho => let ⟨k, hk, h1, h2⟩ := g.opened ho; ⟨k, h.κ _ _ hk, h1, h2⟩, g.fzle, g.cover, g.small⟩
theorem ORel_mono {P : Program} {η η' : Env} (h : η.le η') {E : List LoopInfo} {id : Nat} {o : AObj} {ob : Obj} (g : ORel P η E id o ob) : ORel P η' E id o ob := by
  cases o <;> cases ob <;> try exact g.elim
  · exact CRel.mono h g
  · exact ⟨g.1, EsRel_mono h _ _ g.2⟩
  · rename_i m s seen st m' s' seen' st'
    refine ⟨?_, g.2⟩
    cases m with
    | none => exact g.1
    | some i => obtain ⟨r, hr, hm⟩ := g.1; exact ⟨r, h.ρ _ _ hr, hm⟩
  · exact g
  · obtain ⟨h2, h3, hE⟩ := g
    refine ⟨h2, h3, fun i hi => ?_⟩
    obtain ⟨h4, h5, h6, h7, h8, h9⟩ := hE i hi
    exact ⟨h4, h5.mono h, h6, h7, h8, h.ρ _ _ h9⟩
  · exact g

/-! one object turned, one made -/
theorem Heap.get_put (H : Heap) (b : Nat) (o : AObj) (j : Nat) : (H.put b o).get j = if j = b then some o else H.get j := Tr.get_set _ _ _ _
theorem Heap.get_new (H : Heap) (o : AObj) (j : Nat) : (H.new o).get j = if j = H.next then some o else H.get j := Tr.get_set _ _ _ _

def World.putBlock (w : World) (b : Nat) (o : Obj) : World := { w with heap := w.heap.setIfInBounds b o }
theorem putBlock_get (w : World) (b j : Nat) (o : Obj) (hb : b < w.heap.size) : (World.putBlock w b o).heap[j]? = if j = b then some o else w.heap[j]? := by
  simp only [World.putBlock]
  rw [Array.getElem?_setIfInBounds]
  by_cases h : j = b
  · subst h; simp [hb]
  · simp [h, Ne.symm h]

theorem lt_of_get {w : World} {b : Nat} {ob : Obj} (h : w.heap[b]? = some ob) : b < w.heap.size := by
  rcases Nat.lt_or_ge b w.heap.size with h' | h'
  · exact h'
  · simp [Array.getElem?_eq_none h'] at h

/-- an object that stands is turned -/
theorem Trans.put {P : Program} {E : List LoopInfo} {η : Env} {H : Heap} {w : World} (hr : HRel P η E H w) {id : Nat} {o : AObj} {b : Nat} (hg : H.get id = some o) (hb : η.ρ id = some b)
    (o' : AObj) (ob' : Obj) (ho : ORel P η E id o' ob') {w' : World} (hw : w' = World.putBlock w b ob') : Trans P E η H w η (H.put id o') w' := by
  subst hw
  obtain ⟨b', ob, hb', hob, _⟩ := hr.obj id o hg
  obtain rfl : b' = b := by rw [hb] at hb'; exact (Option.some.inj hb').symm
  have hlt := lt_of_get hob
  refine ⟨Env.le.refl _, ⟨?_, ?_⟩, ?_, ?_, ⟨rfl, rfl, by simp [World.putBlock]⟩⟩
  · intro j oj hj
    rw [Heap.get_put] at hj
    by_cases h : j = id
    · subst h; simp at hj; subst hj
      exact ⟨b', ob', hb, by rw [putBlock_get _ _ _ _ hlt]; simp, ho⟩
    · rw [if_neg h] at hj
      obtain ⟨c, oc, hc, hoc, hrel⟩ := hr.obj j oj hj
      have hne : c ≠ b' := fun he => h (hr.inj _ _ _ _ _ hj hg (he ▸ hc) hb)
      exact ⟨c, oc, hc, by rw [putBlock_get _ _ _ _ hlt, if_neg hne]; exact hoc, hrel⟩
  · intro i j oi oj c hi hj hci hcj
    rw [Heap.get_put] at hi hj
    by_cases h1 : i = id <;> by_cases h2 : j = id
    · rw [h1, h2]
    · subst h1; rw [if_neg h2] at hj; exact hr.inj _ _ _ _ _ hg hj hci hcj
    · subst h2; rw [if_neg h1] at hi; exact hr.inj _ _ _ _ _ hi hg hci hcj
    · rw [if_neg h1] at hi; rw [if_neg h2] at hj; exact hr.inj _ _ _ _ _ hi hj hci hcj
  · intro c _ hn
    rw [putBlock_get _ _ _ _ hlt, if_neg]
    intro he; exact hn ⟨id, o, hg, he ▸ hb⟩
  · rintro c _ ⟨j, oj, hj, hc⟩
    rw [Heap.get_put] at hj
    by_cases h : j = id
    · subst h; exact ⟨_, o, hg, hc⟩
    · rw [if_neg h] at hj; exact ⟨j, oj, hj, hc⟩

def Env.bind (η : Env) (id b : Nat) : Env := { η with ρ := fun i => if i = id then some b else η.ρ i }
def Env.bindK (η : Env) (id b k : Nat) : Env := { η with ρ := fun i => if i = id then some b else η.ρ i, κ := fun i => if i = id then some k else η.κ i }
theorem Env.le_bind {η : Env} {id b : Nat} (h : η.ρ id = none) : η.le (η.bind id b) :=
  ⟨fun i r hr => by simp only [Env.bind]; by_cases e : i = id; · subst e; rw [h] at hr; cases hr
                    · rw [if_neg e]; exact hr, fun _ _ h => h, fun _ _ h => h⟩
theorem Env.le_bindK {η : Env} {id b k : Nat} (h : η.ρ id = none) (hk : η.κ id = none) : η.le (η.bindK id b k) :=
  ⟨fun i r hr => by simp only [Env.bindK]; by_cases e : i = id; · subst e; rw [h] at hr; cases hr
                    · rw [if_neg e]; exact hr,
   fun i r hr => by simp only [Env.bindK]; by_cases e : i = id; · subst e; rw [hk] at hr; cases hr
                    · rw [if_neg e]; exact hr, fun _ _ h => h⟩
theorem Only.bind (η : Env) (id b : Nat) : Only (· = id) η (η.bind id b) := ⟨fun i h => by simp only [Env.bind]; rw [if_neg h], fun _ _ => rfl, fun _ _ => rfl⟩
theorem Only.bindK (η : Env) (id b k : Nat) : Only (· = id) η (η.bindK id b k) := ⟨fun i h => by simp only [Env.bindK]; rw [if_neg h], fun i h => by simp only [Env.bindK]; rw [if_neg h], fun _ _ => rfl⟩

/-- an object is made; w0: what was drawn ahead -/
theorem Trans.new {P : Program} {E : List LoopInfo} {η η' : Env} {H H' : Heap} {w w' : World} (hr : HRel P η E H w) (_hf : Fresh η H H.next) (o : AObj) (ob : Obj)
    (hle : η.le η') (hρ : ∀ i, η'.ρ i = if i = H.next then some w.heap.size else η.ρ i) (ho : ORel P η' E H.next o ob)
    (hH : ∀ j, H'.get j = if j = H.next then some o else H.get j) (hw : w'.heap = w.heap.push ob) (hos : w'.os = w.os) (hout : w'.output = w.output) : Trans P E η H w η' H' w' := by
  have hsz : w'.heap.size = w.heap.size + 1 := by rw [hw]; simp
  have hold : ∀ b, b < w.heap.size → w'.heap[b]? = w.heap[b]? := fun b hb => by rw [hw, Array.getElem?_push]; rw [if_neg (by omega)]
  have lt : ∀ j oj c, H.get j = some oj → η.ρ j = some c → c < w.heap.size := fun j oj c hj hc => by
    obtain ⟨b, ob, hb, hob, _⟩ := hr.obj j oj hj
    rw [hc] at hb; cases hb; exact lt_of_get hob
  refine ⟨hle, ⟨?_, ?_⟩, fun b hb _ => hold b hb, ?_, ⟨hos, hout, by omega⟩⟩
  · intro j oj hj
    rw [hH] at hj
    by_cases h : j = H.next
    · subst h; simp at hj; subst hj
      exact ⟨w.heap.size, ob, by rw [hρ]; simp, by rw [hw]; simp, ho⟩
    · rw [if_neg h] at hj
      obtain ⟨c, oc, hc, hoc, hrel⟩ := hr.obj j oj hj
      exact ⟨c, oc, by rw [hρ, if_neg h]; exact hc, by rw [hold c (lt_of_get hoc)]; exact hoc, ORel_mono hle hrel⟩
  · intro i j oi oj c hi hj hci hcj
    rw [hH] at hi hj; rw [hρ] at hci hcj
    by_cases h1 : i = H.next <;> by_cases h2 : j = H.next
    · rw [h1, h2]
    · subst h1; rw [if_neg h2] at hj hcj; simp at hci; subst hci
      exact absurd (lt _ _ _ hj hcj) (Nat.lt_irrefl _)
    · subst h2; rw [if_neg h1] at hi hci; simp at hcj; subst hcj
      exact absurd (lt _ _ _ hi hci) (Nat.lt_irrefl _)
    · rw [if_neg h1] at hi hci; rw [if_neg h2] at hj hcj; exact hr.inj _ _ _ _ _ hi hj hci hcj
  · rintro b hb ⟨j, oj, hj, hc⟩
    rw [hH] at hj; rw [hρ] at hc
    by_cases h : j = H.next
    · subst h; simp at hc; omega
    · rw [if_neg h] at hj hc; exact ⟨j, oj, hj, hc⟩

/-- drawing moves nothing -/
theorem Trans.drew {P : Program} {E : List LoopInfo} {η η' : Env} {H H' : Heap} {w w' : World} (h : Trans P E η H w.drew η' H' w') : Trans P E η H w η' H' w' :=
  ⟨h.le, h.rel, h.frame, h.shr, ⟨h.keeps.os, h.keeps.output, h.keeps.size⟩⟩
theorem HRel.drew {P : Program} {E : List LoopInfo} {η : Env} {H : Heap} {w : World} (h : HRel P η E H w) : HRel P η E H w.drew := ⟨h.obj, h.inj⟩

end Go.VmK
