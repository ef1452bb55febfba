/-
  Part of the proof of a statement of this seat: walks of its functions and the closed run; no condition but those written in each theorem.
-/
import Derived.Test.YtajngeaenfdigaaGreatDoorV7
import Derived.MapKept
import Derived.Laws.OwnMore
import Derived.Deep.AppendLies
/- Cells of worlds that stand; appending of whatever row. -/
namespace Go.VmK
open Go.RowKit
theorem Stands.refl (w : World) : Stands w w := ⟨rfl, rfl, Nat.le_refl _, fun _ _ => rfl⟩
theorem Stands.trans {a b c : World} (h : Stands a b) (g : Stands b c) : Stands a c :=
  ⟨g.os.trans h.os, g.output.trans h.output, Nat.le_trans h.size g.size, fun i hi => (g.blocks i (Nat.lt_of_lt_of_le hi h.size)).trans (h.blocks i hi)⟩
theorem cell_block {w w' : World} {b o : Nat} {v : Value} (hb : w'.heap[b]? = w.heap[b]?) (h : w.cell? ⟨b, o, none⟩ = some v) : w'.cell? ⟨b, o, none⟩ = some v := by
  unfold World.cell? at h ⊢
  rw [hb]
  exact h
theorem cell_lt {w : World} {b o : Nat} {v : Value} (h : w.cell? ⟨b, o, none⟩ = some v) : b < w.heap.size := by
  cases hq : w.heap[b]? with
  | none => simp [World.cell?, hq] at h
  | some o => exact (Array.getElem?_eq_some_iff.1 hq).1
theorem stands_cell {w w' : World} (hg : Stands w w') {b o : Nat} {v : Value} (h : w.cell? ⟨b, o, none⟩ = some v) : w'.cell? ⟨b, o, none⟩ = some v :=
  cell_block (hg.blocks b (cell_lt h)) h
theorem grown_cell {w w' : World} (hg : Grown w w') {b o : Nat} {v : Value} (h : w.cell? ⟨b, o, none⟩ = some v) : w'.cell? ⟨b, o, none⟩ = some v := stands_cell (stands_of_grown hg) h
theorem cell_laid (w : World) (cs : Array Value) (t : TypeId) (j : Nat) (v : Value) (h : cs[j]? = some v) : (w.alloc (.cells cs t)).cell? ⟨w.heap.size, j, none⟩ = some v := by
  have e : (w.alloc (.cells cs t)).heap[w.heap.size]? = some (.cells cs t) := (MapKept.heap_alloc w _).1
  simp only [World.cell?, e]
  simpa using h
theorem stands_alloc (w : World) (cs : Array Value) (t : TypeId) : Stands w (w.alloc (.cells cs t)) := stands_of_grown ((Grown.refl _).alloc _ _)
theorem stands_drew (w : World) : Stands w w.drew := ⟨rfl, rfl, Nat.le_refl _, fun _ _ => rfl⟩
theorem stands_of_grownBy {w w' : World} (h : w.grownBy w' none) : Stands w w' := ⟨h.os, h.output, h.size, fun b hb => h.block b hb (by simp)⟩
/-- behind an append onto a row that is none of those that stood -/
theorem stands_of_owned {w0 w w' : World} {e : TypeId} {size n : Nat} {v : Value} {xs : List Value} (hs : Stands w0 w) (ho : w.ownsRow w0.heap.size e size v n xs) (h : w.grownBy w' v.ownBlock) : Stands w0 w' := by
  refine ⟨h.os.trans hs.os, h.output.trans hs.output, Nat.le_trans hs.size h.size, fun b hb => (h.block b (Nat.lt_of_lt_of_le hb hs.size) ?_).trans (hs.blocks b hb)⟩
  rcases ho.2 with ⟨rfl, _⟩ | ⟨g, cap, cur, rfl, hg, _⟩
  · simp [Value.ownBlock]
  · simp only [Value.ownBlock, ne_eq, Option.some.injEq]
    omega
section
variable {P : Program} (w : World)
/-- append onto a row of the call's own, of whatever row: nil, empty, of any length -/
theorem run_append_all (base : Nat) (t ty e : TypeId) (i : TypeInfo) (z : Value) (size bytes : Nat) (ht : P.underlying t = some (.slice e)) (hi : P.info? e = some i) (hz : i.zero = some z)
    (hsize : i.size = size) (hby : i.bytes = bytes) (hzs : z.cells.size = size) (hsz : 0 < size)
    (v : Value) (n : Nat) (xs : List Value) (hown : w.ownsRow base e size v n xs)
    (x : Value) (m : Nat) (news : List Value) (hx : (x = .slice none 0 0 ∧ m = 0) ∨ ∃ a c, x = .slice (some a) m c ∧ ∀ j u, news[j]? = some u → w.cell? (a.add j) = some u) (hl : news.length = m * size) (h1 : ∀ u ∈ news, u.oneCell' = true)
    (h63 : n + m ≤ maxLen) (hbytes : (n + m) * bytes ≤ 140737488355328) (hbase : base ≤ w.heap.size) :
    ∃ v' w', (Builtin.append_ #[t, t] ty #[v, x]).run P w = .ok v' w' ∧ w'.ownsRow base e size v' (n + m) (xs ++ news) ∧ w.grownBy w' v.ownBlock := by
  rcases hx with ⟨rfl, rfl⟩ | ⟨a, c, rfl, hn⟩
  · have hnil : news = [] := List.eq_nil_of_length_eq_zero (by simpa using hl)
    subst hnil
    exact ⟨v, w, run_append_owned_none w base t ty e i size ht hi v n xs hown, by simpa using hown, ⟨rfl, rfl, rfl, Nat.le_refl _, fun _ _ _ => rfl⟩⟩
  · obtain ⟨v', w', h2, h3, h4, _⟩ := run_append_own (P := P) w base t ty e i z size bytes ht hi hz hsize hby hzs hsz v n xs hown a m c news hl hn h1 h63 hbytes hbase
    exact ⟨v', w', h2, h3, h4⟩
/-- at a step of a region that draws its order -/
theorem step_append_all {ops : Array Oper} {o : Oper} {a : Act} {K : Act → World → Prop} {Q : Exit → Act → World → Prop} {E : Prop} (hgd : o.guard = none) (s x : Operand) (t : TypeId)
    (ho : o.op = .call { callee := .builtin .append, args := #[s, x], argTypes := #[t, t] })
    (base : Nat) (e : TypeId) (i : TypeInfo) (z : Value) (size bytes : Nat) (ht : P.underlying t = some (.slice e)) (hi : P.info? e = some i) (hz : i.zero = some z)
    (hsize : i.size = size) (hby : i.bytes = bytes) (hzs : z.cells.size = size) (hsz : 0 < size)
    (v : Value) (n : Nat) (xs : List Value) (hs : a.eval s = v) (hown : w.ownsRow base e size v n xs)
    (xv : Value) (m : Nat) (news : List Value) (hxe : a.eval x = xv) (hx : (xv = .slice none 0 0 ∧ m = 0) ∨ ∃ a c, xv = .slice (some a) m c ∧ ∀ j u, news[j]? = some u → w.cell? (a.add j) = some u) (hl : news.length = m * size) (h1 : ∀ u ∈ news, u.oneCell' = true)
    (h63 : n + m ≤ maxLen) (hbytes : (n + m) * bytes ≤ 140737488355328) (hbase : base ≤ w.heap.size)
    (h : ∀ v' w', w'.ownsRow base e size v' (n + m) (xs ++ news) → w.grownBy w' v.ownBlock → K (a.put o.dst v') w') :
    if Region.wanted o (yielded ops a.tmps) = true then Oper.wp P o a w K Q else E := by
  have hw : Region.wanted o (yielded ops a.tmps) = true := by simp [Region.wanted, hgd]
  rw [if_pos hw]
  obtain ⟨v', w', hr, h2, h3⟩ := run_append_all (P := P) w base t o.type e i z size bytes ht hi hz hsize hby hzs hsz v n xs hown xv m news hx hl h1 h63 hbytes hbase
  unfold Oper.wp execOp
  simp only [ho, resolve, invoke, builtin, Sem.run_bind, Sem.run_pure, Result.andThen_ok, List.map_toArray, List.map_cons, List.map_nil, hs, hxe, hr]
  exact h v' w' h2 h3
end
end Go.VmK
/- Rows of writes as lists of cells. -/
namespace Go.VmK
def items (ks vs : Nat → ByteArray) (ds : Nat → Bool) : Nat → Nat → List Value
  | _, 0 => []
  | a, n + 1 => .string (ks a) :: .string (vs a) :: .bool (ds a) :: items ks vs ds (a + 1) n
variable {ks vs : Nat → ByteArray} {ds : Nat → Bool}
theorem items_len : ∀ (a n : Nat), (items ks vs ds a n).length = n * 3
  | _, 0 => rfl
  | a, n + 1 => by simp only [items, List.length_cons, items_len (a + 1) n]; omega
theorem items_one : ∀ (a n : Nat), ∀ u ∈ items ks vs ds a n, u.oneCell' = true
  | _, 0 => fun u h => by cases h
  | a, n + 1 => fun u h => by
    simp only [items, List.mem_cons] at h
    rcases h with rfl | rfl | rfl | h
    · rfl
    · rfl
    · rfl
    · exact items_one (a + 1) n u h
theorem items_app : ∀ (a m n : Nat), items ks vs ds a (m + n) = items ks vs ds a m ++ items ks vs ds (a + m) n
  | a, 0, n => by simp [items]
  | a, m + 1, n => by
    rw [show m + 1 + n = (m + n) + 1 by omega]
    simp only [items, List.cons_append]
    rw [items_app (a + 1) m n, show a + 1 + m = a + (m + 1) by omega]
theorem items_congr {ks' vs' : Nat → ByteArray} {ds' : Nat → Bool} : ∀ (a a' n : Nat), (∀ j, j < n → ks (a + j) = ks' (a' + j) ∧ vs (a + j) = vs' (a' + j) ∧ ds (a + j) = ds' (a' + j)) → items ks vs ds a n = items ks' vs' ds' a' n
  | _, _, 0, _ => rfl
  | a, a', n + 1, h => by
    obtain ⟨h1, h2, h3⟩ := h 0 (by omega)
    simp only [Nat.add_zero] at h1 h2 h3
    simp only [items, h1, h2, h3]
    congr 3
    exact items_congr (a + 1) (a' + 1) n fun j hj => by
      have := h (j + 1) (by omega)
      rwa [show a + (j + 1) = a + 1 + j by omega, show a' + (j + 1) = a' + 1 + j by omega] at this
theorem items_cells {c : Nat → Option Value} : ∀ (a n o : Nat), (∀ q, q < n → c (o + q * 3) = some (.string (ks (a + q))) ∧ c (o + q * 3 + 1) = some (.string (vs (a + q))) ∧ c (o + q * 3 + 2) = some (.bool (ds (a + q)))) → ∀ j u, (items ks vs ds a n)[j]? = some u → c (o + j) = some u
  | _, 0, _, _, j, u, hu => by simp [items] at hu
  | a, n + 1, o, h, j, u, hu => by
    obtain ⟨h1, h2, h3⟩ := h 0 (by omega)
    simp only [Nat.add_zero, Nat.zero_mul] at h1 h2 h3
    match j with
    | 0 => simp [items] at hu; subst hu; exact h1
    | 1 => simp [items] at hu; subst hu; exact h2
    | 2 => simp [items] at hu; subst hu; exact h3
    | j + 3 =>
      simp only [items, List.getElem?_cons_succ] at hu
      have := items_cells (c := c) (a + 1) n (o + 3) (fun q hq => by
        have := h (q + 1) (by omega)
        rwa [show o + (q + 1) * 3 = o + 3 + q * 3 by omega, show a + (q + 1) = a + 1 + q by omega] at this) j u hu
      rwa [show o + 3 + j = o + (j + 3) by omega] at this
theorem items_at : ∀ (a n q : Nat), q < n → (items ks vs ds a n)[q * 3]? = some (.string (ks (a + q))) ∧ (items ks vs ds a n)[q * 3 + 1]? = some (.string (vs (a + q))) ∧ (items ks vs ds a n)[q * 3 + 2]? = some (.bool (ds (a + q)))
  | _, 0, _, h => absurd h (Nat.not_lt_zero _)
  | a, n + 1, 0, _ => ⟨rfl, rfl, rfl⟩
  | a, n + 1, q + 1, h => by
    have := items_at (a + 1) n q (by omega)
    rw [show (q + 1) * 3 = q * 3 + 3 by omega, show a + (q + 1) = a + 1 + q by omega]
    simpa [items] using this
/-- a row with one put in -/
def putIn {α : Type} (f : Nat → α) (at_ : Nat) (x : α) (j : Nat) : α := if j < at_ then f j else if j = at_ then x else f (j - 1)
theorem items_put (k v : ByteArray) (d : Bool) (at_ len : Nat) (h : at_ ≤ len) :
    items ks vs ds 0 at_ ++ [.string k, .string v, .bool d] ++ items ks vs ds at_ (len - at_) = items (putIn ks at_ k) (putIn vs at_ v) (putIn ds at_ d) 0 (len + 1) := by
  rw [show len + 1 = at_ + (1 + (len - at_)) by omega, items_app, items_app, List.append_assoc]
  congr 1
  · refine items_congr 0 0 at_ fun j hj => ?_
    simp [putIn, hj]
  · congr 1
    · simp [items, putIn]
    · refine items_congr at_ (0 + at_ + 1) (len - at_) fun j hj => ?_
      have h1 : ¬ 0 + at_ + 1 + j < at_ := by omega
      have h2 : ¬ 0 + at_ + 1 + j = at_ := by omega
      have h3 : 0 + at_ + 1 + j - 1 = at_ + j := by omega
      simp only [putIn, if_neg h1, if_neg h2, h3, and_self]
/-- rows of writes -/
def Rows3 (w : World) (ao : Option Addr) (len : Nat) (ks vs : Nat → ByteArray) (ds : Nat → Bool) : Prop :=
  ∀ j, j < len → ∃ bk off, ao = some ⟨bk, off, none⟩ ∧ w.cell? ⟨bk, off + j * 3, none⟩ = some (.string (ks j)) ∧ w.cell? ⟨bk, off + j * 3 + 1, none⟩ = some (.string (vs j)) ∧ w.cell? ⟨bk, off + j * 3 + 2, none⟩ = some (.bool (ds j))
theorem Rows3.stands {w w' : World} {ao : Option Addr} {len : Nat} (h : Rows3 w ao len ks vs ds) (g : Stands w w') : Rows3 w' ao len ks vs ds := fun j hj => by
  obtain ⟨bk, off, h1, h2, h3, h4⟩ := h j hj
  exact ⟨bk, off, h1, stands_cell g h2, stands_cell g h3, stands_cell g h4⟩
theorem addr_add (bk off j : Nat) : (⟨bk, off, none⟩ : Addr).add j = ⟨bk, off + j, none⟩ := by unfold Addr.add; split <;> simp_all
/-- what is appended of a row, from a place on -/
theorem Rows3.src {w : World} {ao : Option Addr} {len cap : Nat} (h : Rows3 w ao len ks vs ds) (hnil : ao = none → cap = 0) (hcap : len ≤ cap) (a n : Nat) (hn : a + n ≤ len) (hw : ao = none → n = 0) (c : Nat) (x : Option Addr) (hx : x = (if a = 0 ∨ cap = a then ao else ao.map fun y => y.add (a * 3))) (hc : ao = none → c = 0) :
    ((Value.slice x n c = .slice none 0 0 ∧ n = 0) ∨ ∃ ad c', Value.slice x n c = .slice (some ad) n c' ∧ ∀ j u, (items ks vs ds a n)[j]? = some u → w.cell? (ad.add j) = some u) := by
  cases ao with
  | none =>
    left
    have h0 := hw rfl
    have h1 := hc rfl
    subst h0; subst h1
    have : x = none := by rw [hx]; split <;> rfl
    subst this
    exact ⟨rfl, rfl⟩
  | some ad =>
    right
    by_cases hn0 : n = 0
    · subst hn0
      refine ⟨if a = 0 ∨ cap = a then ad else ad.add (a * 3), c, ?_, fun j u hu => by simp [items] at hu⟩
      rw [hx]
      split <;> rfl
    · have hq : ∀ q, q < n → ∃ bk off, ad = ⟨bk, off, none⟩ ∧ w.cell? ⟨bk, off + (a + q) * 3, none⟩ = some (.string (ks (a + q))) ∧ w.cell? ⟨bk, off + (a + q) * 3 + 1, none⟩ = some (.string (vs (a + q))) ∧ w.cell? ⟨bk, off + (a + q) * 3 + 2, none⟩ = some (.bool (ds (a + q))) := fun q hq => by
        obtain ⟨bk, off, h1, h2⟩ := h (a + q) (by omega)
        exact ⟨bk, off, Option.some.inj h1, h2⟩
      obtain ⟨bk, off, rfl, _⟩ := hq 0 (by omega)
      refine ⟨⟨bk, off + a * 3, none⟩, c, ?_, fun j u hu => ?_⟩
      · rw [hx]
        by_cases ha : a = 0
        · subst ha; simp
        · have : ¬ cap = a := by omega
          rw [if_neg (by omega)]
          simp only [Option.map_some, addr_add]
      · rw [addr_add]
        refine items_cells (c := fun j => w.cell? ⟨bk, j, none⟩) a n (off + a * 3) (fun q hq' => ?_) j u hu
        obtain ⟨bk', off', e, h2, h3, h4⟩ := hq q hq'
        cases e
        rw [show off + a * 3 + q * 3 = off + (a + q) * 3 by omega]
        exact ⟨h2, h3, h4⟩
end Go.VmK
