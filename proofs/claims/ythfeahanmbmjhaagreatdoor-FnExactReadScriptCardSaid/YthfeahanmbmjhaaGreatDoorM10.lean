/- Joined: Op, X1, X4, X5. No conditions. -/
import Derived.Test.YthfeahanmbmjhaaGreatDoorM4
import Derived.ChangeArms
import Derived.Deep.Slices
import Derived.Test.YthfeahanmbmjhaaGreatDoorFT
import Derived.OpenShut
import Derived.Below
import Derived.Carry
import Derived.ChangeShapes
import Derived.WideShapes
import Derived.Test.YthfeahanmbmjhaaGreatDoorShelf
import Derived.Lib.AtoiErrMem
import Derived.Lib.ItoaMem
import Derived.WalkKit
import Derived.BigCall
import Derived.Lib.Bytealg
import Derived.Test.YthfeahanmbmjhaaGreatDoorRows
import Derived.Stop.LaidErr
import Derived.LaidMore
import Derived.MakeChecks
import Derived.Lay
set_option linter.unusedSimpArgs false
set_option linter.unusedVariables false
set_option linter.unnecessarySimpa false
set_option maxHeartbeats 4000000
/- Arguments: what a reading of numbers, texts, bools, structs and slices of them tells, as an abstract memory of which nothing is one's own. No conditions. -/
namespace Go.Proofs.YthfeahanmbmjhaaGreatDoor.Ab
open Go.RowKit
/-- Kinds of cells. -/
inductive CK where
  | int (k : IntKind)
  | bool
  | str
  | sl (e : List CK)
/-- What an argument's cell shows. -/
inductive Shape (h : Heap) : CK → Value → Prop
  | int (k : IntKind) (n : Int) (hw : (Lit.int k n).wf = true) : Shape h (.int k) (.int k n)
  | bool (b : Bool) : Shape h .bool (.bool b)
  | str (s : ByteArray) (hs : s.size ≤ maxLen) : Shape h .str (.string s)
  | sl (e : List CK) (v : Value) (rows : List (List Value)) (hr : Rows h e.length v rows) (hm : rows.length ≤ maxLen)
      (hk : ∀ r ∈ rows, ∀ (i : Nat) (k : CK) (x : Value), e[i]? = some k → r[i]? = some x → Shape h k x) : Shape h (.sl e) v
theorem Shape.up {h h' : Heap} (hp : h <+: h') {k : CK} {v : Value} (s : Shape h k v) : Shape h' k v := by
  induction s with
  | int k n hw => exact .int k n hw
  | bool b => exact .bool b
  | str s hs => exact .str s hs
  | sl e v rows hr hm hk ih => exact .sl e v rows (hr.up hp) hm ih
def fieldsK (P : Program) (g : TypeId → Option (List CK)) : Nat → List Field → Option (List CK)
  | _, [] => some []
  | off, f :: fs => match g f.type with
    | some ks => if f.offset = off ∧ ks.length = P.cellsOf f.type then (fieldsK P g (off + ks.length) fs).map (ks ++ ·) else none
    | none => none
def kindsOf (P : Program) : Nat → TypeId → Option (List CK)
  | 0, _ => none
  | n + 1, t => match P.underlying t with
    | some (.int k) => some [.int k]
    | some .bool => some [.bool]
    | some .string => some [.str]
    | some (.slice e) => match kindsOf P n e with
      | some ks => if ks.length = P.cellsOf e ∧ 0 < ks.length then some [.sl ks] else none
      | none => none
    | some (.struct fs) => match fieldsK P (kindsOf P n) 0 fs.toList with
      | some ks => if ks.length = P.cellsOf t then some ks else none
      | none => none
    | _ => none
def NoOwn (h : Heap) : Prop := ∀ (b : Nat) (blk : Blk), h[b]? = some blk → blk.own = false
/-- A block that is only read. -/
theorem HRel.show {μ : Map} {h : Heap} {w : World} (k : HRel μ h w) (hn : NoOwn h) {blk : Blk} (ho : blk.own = false) (hp : 0 < blk.sz) {l : Loc} (hl : l.g < w.heap.size)
    (hc : ∀ (i : Nat) (v : Value), blk.cells[i]? = some v → ∃ v', w.cell? ⟨l.g, l.o + i, none⟩ = some v' ∧ VR1 μ h v v') :
    HRel (μ.to h.length l) (h ++ [blk]) w ∧ Up μ h (μ.to h.length l) (h ++ [blk]) ∧ NoOwn (h ++ [blk]) := by
  have up := Up.push μ h l blk
  have no : NoOwn (h ++ [blk]) := fun b b' hb => by
    rcases push_get hb with ⟨_, rfl⟩ | ⟨_, hb⟩
    · exact ho
    · exact hn _ _ hb
  refine ⟨⟨fun b' blk' hb' i v hv => ?_, fun b' blk' hb' => ?_, fun b' blk' hb' => ?_, fun b' blk' hb' ho' => ?_, fun b1 b2 blk1 blk2 h1 h2 h3 h4 => ?_⟩, up, no⟩
  · rcases push_get hb' with ⟨rfl, rfl⟩ | ⟨hlt, hb'⟩
    · obtain ⟨v', h1, h2⟩ := hc i v hv
      exact ⟨v', by rw [Map.to_same]; exact h1, h2.up up⟩
    · obtain ⟨v', h1, h2⟩ := k.cell b' blk' hb' i v hv
      exact ⟨v', by rw [Map.to_ne _ _ (by omega)]; exact h1, h2.up up⟩
  · rcases push_get hb' with ⟨rfl, rfl⟩ | ⟨hlt, hb'⟩
    · exact hp
    · exact k.pos _ _ hb'
  · rcases push_get hb' with ⟨rfl, rfl⟩ | ⟨hlt, hb'⟩
    · rw [Map.to_same]; exact hl
    · rw [Map.to_ne _ _ (by omega)]; exact k.lt _ _ hb'
  · rw [no _ _ hb'] at ho'; cases ho'
  · rw [no _ _ h1] at h3; cases h3
/-- These cells can be shown. -/
def Opens (w : World) (ks : List CK) (cs : List Value) : Prop := ∀ (h : Heap) (μ : Map), HRel μ h w → NoOwn h → ∃ h' μ' acs, h <+: h' ∧ Up μ h μ' h' ∧ HRel μ' h' w ∧ NoOwn h' ∧ All2 (VR0 μ' h') acs cs ∧ All2 (Shape h') ks acs
theorem Opens.nil {w : World} : Opens w [] [] := fun h μ H N => ⟨h, μ, [], List.prefix_refl _, Up.refl _ _, H, N, All2.nil, All2.nil⟩
theorem Opens.append {w : World} {ks1 ks2 : List CK} {cs1 cs2 : List Value} (o1 : Opens w ks1 cs1) (o2 : Opens w ks2 cs2) : Opens w (ks1 ++ ks2) (cs1 ++ cs2) := by
  intro h μ H N
  obtain ⟨h1, μ1, a1, p1, u1, H1, N1, v1, s1⟩ := o1 h μ H N
  obtain ⟨h2, μ2, a2, p2, u2, H2, N2, v2, s2⟩ := o2 h1 μ1 H1 N1
  exact ⟨h2, μ2, a1 ++ a2, p1.trans p2, u1.trans u2, H2, N2, (v1.imp fun _ _ k => k.up u2).append v2, (s1.imp fun _ _ k => k.up p2).append s2⟩
theorem Opens.one {w : World} {k : CK} {v : Value} (hp : prim v = true) (hs : ∀ h, Shape h k v) : Opens w [k] [v] := fun h μ H N =>
  ⟨h, μ, [v], List.prefix_refl _, Up.refl _ _, H, N, All2.cons (.prim _ hp) All2.nil, All2.cons (hs h) All2.nil⟩
theorem opens_fields {P : Program} {w : World} {g : TypeId → Option (List CK)} {cs : List Value} : ∀ (fs : List Field) (off : Nat) (ks : List CK), fieldsK P g off fs = some ks → off + ks.length ≤ cs.length →
    (∀ f ∈ fs, ∀ k, g f.type = some k → Opens w k ((cs.drop f.offset).take (P.cellsOf f.type))) → Opens w ks ((cs.drop off).take ks.length)
  | [], off, ks, h, _, _ => by simp [fieldsK] at h; subst h; simpa using Opens.nil
  | f :: fs, off, ks, h, hl, ho => by
    simp only [fieldsK] at h
    split at h
    · rename_i k hk
      split at h
      · rename_i hc
        obtain ⟨h1, h2⟩ := hc
        simp only [Option.map_eq_some_iff] at h
        obtain ⟨ks', h3, rfl⟩ := h
        simp only [List.length_append] at hl
        have o1 := ho f List.mem_cons_self k hk
        rw [h1, ← h2] at o1
        have o2 := opens_fields fs (off + k.length) ks' h3 (by omega) fun f hf => ho f (List.mem_cons_of_mem _ hf)
        have e : (cs.drop off).take (k ++ ks').length = (cs.drop off).take k.length ++ (cs.drop (off + k.length)).take ks'.length := by
          rw [List.length_append, List.take_add, List.drop_drop]
        rw [e]
        exact o1.append o2
      · cases h
    · cases h
theorem add_block (a : Addr) (n : Nat) : (a.add n).block = a.block := by unfold Addr.add; split <;> rfl
/-- The rows that lie at a place. -/
theorem opens_rows {w : World} {a : Addr} {e : List CK} {n : Nat} (hr : ∀ i, i < n → ∃ cs, cs.length = e.length ∧ (∀ j, j < e.length → w.cell? (a.add (i * e.length + j)) = cs[j]?) ∧ Opens w e cs) :
    ∀ (h : Heap) (μ : Map), HRel μ h w → NoOwn h → ∃ (h' : Heap) (μ' : Map) (rows : List (List Value)) (flat : List Value), h <+: h' ∧ Up μ h μ' h' ∧ HRel μ' h' w ∧ NoOwn h' ∧ rows.length = n ∧ (∀ r ∈ rows, All2 (Shape h') e r) ∧ All2 (VR0 μ' h') rows.flatten flat ∧ flat.length = n * e.length ∧ ∀ q, q < n * e.length → w.cell? (a.add q) = flat[q]? := by
  induction n with
  | zero => exact fun h μ H N => ⟨h, μ, [], [], List.prefix_refl _, Up.refl _ _, H, N, rfl, fun _ h => (by cases h), All2.nil, by simp, fun q hq => by omega⟩
  | succ n ih =>
    intro h μ H N
    obtain ⟨h1, μ1, rows, flat, p1, u1, H1, N1, l1, s1, v1, f1, g1⟩ := ih (fun i hi => hr i (by omega)) h μ H N
    obtain ⟨cs, c1, c2, c3⟩ := hr n (by omega)
    obtain ⟨h2, μ2, acs, p2, u2, H2, N2, v2, s2⟩ := c3 h1 μ1 H1 N1
    refine ⟨h2, μ2, rows ++ [acs], flat ++ cs, p1.trans p2, u1.trans u2, H2, N2, by simp [l1], fun r hr => ?_, ?_, ?_, fun q hq => ?_⟩
    · rcases List.mem_append.1 hr with hr | hr
      · exact (s1 r hr).imp fun _ _ k => k.up p2
      · rw [List.mem_singleton.1 hr]; exact s2
    · rw [List.flatten_append]
      simpa using (v1.imp fun _ _ k => k.up u2).append v2
    · rw [List.length_append, f1, c1, Nat.add_mul, Nat.one_mul]
    · rw [Nat.add_mul, Nat.one_mul] at hq
      by_cases hlt : q < n * e.length
      · rw [g1 q hlt, List.getElem?_append_left (by omega)]
      · have := c2 (q - n * e.length) (by omega)
        rw [show n * e.length + (q - n * e.length) = q by omega] at this
        rw [this, List.getElem?_append_right (by omega), f1]
theorem mem_index {fs : List Field} {f : Field} (h : f ∈ fs) : ∃ i : Nat, fs[i]? = some f := by
  obtain ⟨i, hi, e⟩ := List.mem_iff_getElem.1 h
  exact ⟨i, by rw [List.getElem?_eq_getElem hi, e]⟩
theorem row_of_flat {rows : List (List Value)} {sz : Nat} (hl : ∀ r ∈ rows, r.length = sz) {flat : List Value} {μ : Map} {h : Heap} (v : All2 (VR0 μ h) rows.flatten flat) {q : Nat} {x : Value} (hx : rows.flatten[q]? = some x) : ∃ y, flat[q]? = some y ∧ VR1 μ h x y := by
  obtain ⟨y, hy, k⟩ := v.get hx
  exact ⟨y, hy, .base _ _ k⟩
/-- What is read of an argument can be shown. -/
theorem opens_kinds {H : Type} {enc : TypeId × Value → H} {P : Program} {w : World} {spare : Nat → Bool} {held : Bool} (hsp : ∀ b, spare b = true) : ∀ (n : Nat) (t : TypeId) (ks : List CK), kindsOf P n t = some ks →
    ∀ (fuel : Nat) (cs : List Value) (x : DataW H × List MemPlace), DataW.trod enc P w 0 spare held fuel t cs = some x → Opens w ks cs
  | 0, t, ks, h => by cases h
  | n + 1, t, ks, h => by
    intro fuel cs x hx
    simp only [kindsOf] at h
    split at h
    · rename_i k ht
      cases h
      obtain ⟨m, rfl, _, hw⟩ := DataW.trod_int ht hx
      exact Opens.one rfl fun _ => .int k m hw
    · rename_i ht
      cases h
      obtain ⟨b, rfl, _⟩ := DataW.trod_bool ht hx
      exact Opens.one rfl fun _ => .bool b
    · rename_i ht
      cases h
      obtain ⟨b, rfl, _, hw⟩ := DataW.trod_string ht hx
      exact Opens.one rfl fun _ => .str b hw
    · rename_i e ht
      split at h
      · rename_i ke hke
        split at h
        · rename_i hc
          obtain ⟨hc1, hc2⟩ := hc
          cases h
          rcases Go.Deep.open_slice ht hx with ⟨rfl, _⟩ | ⟨a, len, cap, m, k, D, Pl, rfl, _, hlc, hcm, hm, _, hi⟩
          · exact Opens.one rfl fun _ => .sl ke _ [] Rows.nil (Nat.zero_le _) (fun _ h => by cases h)
          · rw [hsp, if_pos rfl] at hm
            subst hm
            have hrow : ∀ i, i < m → ∃ cs, cs.length = ke.length ∧ (∀ j, j < ke.length → w.cell? (a.add (i * ke.length + j)) = cs[j]?) ∧ Opens w ke cs := fun i him => by
              obtain ⟨cs', hc', ht'⟩ := hi i him
              obtain ⟨_, hcl, hat⟩ := World.cells?_some hc'
              rw [← hc1] at hcl hat
              refine ⟨cs', hcl, fun j hj => ?_, opens_kinds hsp n e ke hke k cs' _ ht'⟩
              rw [← Go.Deep.add_add]
              exact hat j hj
            by_cases hz : m = 0
            · subst hz
              obtain rfl : len = 0 := by omega
              exact fun h μ H N => ⟨h, μ, [.slice none 0 0], List.prefix_refl _, Up.refl _ _, H, N, All2.cons (.hollow a) All2.nil, All2.cons (.sl ke _ [] Rows.nil (Nat.zero_le _) (fun _ h => by cases h)) All2.nil⟩
            · intro h μ H N
              obtain ⟨h1, μ1, rows, flat, p1, u1, H1, N1, l1, s1, v1, f1, g1⟩ := opens_rows (n := len) (fun i hi => hrow i (by omega)) h μ H N
              have hsz : ∀ r ∈ rows, r.length = ke.length := fun r hr => (s1 r hr).1.symm
              obtain ⟨c0, q1, q2, _⟩ := hrow 0 (by omega)
              have hcell : w.cell? a = c0[0]? := by
                have := q2 0 hc2
                simpa [Addr.add] using this
              rw [List.getElem?_eq_getElem (by omega)] at hcell
              have hblk : ∃ cur et fr, w.heap[a.block]? = some (.cells cur et fr) ∧ a.spot = none := by
                unfold World.cell? at hcell
                split at hcell
                · rename_i cur et fr hb
                  split at hcell
                  · cases hcell
                  · rename_i hs
                    exact ⟨cur, et, fr, hb, by simpa using hs⟩
                · cases hcell
              obtain ⟨cur, et, fr, hb, hs⟩ := hblk
              have hlt : a.block < w.heap.size := (Array.getElem?_eq_some_iff.1 hb).1
              have ha : a = ⟨a.block, a.off, none⟩ := by cases a; simp_all
              have hadd : ∀ q, a.add q = ⟨a.block, a.off + q, none⟩ := fun q => by
                unfold Addr.add
                split
                · rename_i h0; subst h0; rw [Nat.add_zero]; exact ha
                · rfl
              obtain ⟨H2, u2, N2⟩ := H1.show N1 (blk := ⟨rows.flatten, ke.length, 0, false⟩) rfl hc2 (l := ⟨a.block, a.off, 0⟩) hlt (fun i v hv => by
                obtain ⟨y, hy, k⟩ := row_of_flat hsz v1 hv
                refine ⟨y, ?_, k⟩
                have hq : i < len * ke.length := by
                  have := (List.getElem?_eq_some_iff.1 hy).1
                  omega
                have := g1 i hq
                rw [hadd] at this
                rw [this]
                exact hy)
              have hfl : rows.flatten.length = len * ke.length := by rw [flatten_len hsz, l1]
              refine ⟨_, _, [.slice (some ⟨h1.length, 0, none⟩) len len], p1.trans (List.prefix_append _ _), u1.trans u2, H2, N2, All2.cons (.sl h1.length 0 len len _ ⟨rows.flatten, ke.length, 0, false⟩ (by simp) (Nat.le_refl _) (by simp only [Nat.zero_add, hfl]; exact Nat.le_refl _) (fun _ => ?_) rfl) All2.nil, All2.cons (.sl ke _ rows ?_ (by omega) (fun r hr i k x hk hx => ?_)) All2.nil⟩
              · refine ⟨a, m, rfl, hlc, hcm, .inr ?_, fun h => by cases h⟩
                rw [Map.to_same]
                exact ha
              · refine ⟨hsz, .inr ⟨h1.length, 0, len, ⟨rows.flatten, ke.length, 0, false⟩, by rw [l1], by simp, rfl, by simp [hfl], by omega, ?_⟩⟩
                rw [l1, ← hfl, List.drop_zero]
                exact List.take_length
              · exact ((s1 r hr).2 i k x hk hx).up (List.prefix_append _ _)
        · cases h
      · cases h
    · rename_i fs ht
      split at h
      · rename_i ks' hf
        split at h
        · rename_i hl
          cases h
          obtain ⟨xs, k, _, _, hlen, hxl, hfs⟩ := DataW.trod_struct ht hx
          have := opens_fields (w := w) (cs := cs) fs.toList 0 ks hf (by omega) (fun f hmem kf hkf => by
            obtain ⟨i, hi⟩ := mem_index hmem
            have hi' : fs[i]? = some f := by simpa using hi
            have h1 := hfs i f hi'
            have hil : i < xs.length := by rw [hxl]; exact (Array.getElem?_eq_some_iff.1 hi').1
            rw [List.getElem?_eq_getElem hil] at h1
            exact opens_kinds hsp n f.type kf hkf k _ _ h1)
          rw [List.drop_zero, List.take_of_length_le (by omega)] at this
          exact this
        · cases h
      · cases h
    · cases h
end Go.Proofs.YthfeahanmbmjhaaGreatDoor.Ab
/- A law's call, from the arguments as they are read to the answer. No conditions. -/
namespace Go.Proofs.YthfeahanmbmjhaaGreatDoor.Ab
open Go.RowKit
def isRow (P : Program) (t : TypeId) : Bool := match P.underlying t with
  | some (.struct _) => true
  | _ => false
def paramsK (P : Program) : List TypeId → Option (List (Bool × List CK))
  | [] => some []
  | t :: ts => match kindsOf P 12 t, paramsK P ts with
    | some ks, some ps => some ((isRow P t, ks) :: ps)
    | _, _ => none
/-- An argument of these cells. -/
def ArgOk (h : Heap) (p : Bool × List CK) (v : Value) : Prop := ∃ acs, All2 (Shape h) p.2 acs ∧ if p.1 = true then v = .agg ⟨acs⟩ else acs = [v]
theorem ArgOk.up {h h' : Heap} (hp : h <+: h') {p : Bool × List CK} {v : Value} (a : ArgOk h p v) : ArgOk h' p v := by
  obtain ⟨acs, h1, h2⟩ := a
  exact ⟨acs, h1.imp fun _ _ k => k.up hp, h2⟩
theorem HRel.empty {μ : Map} {w : World} : HRel μ [] w := ⟨fun b _ h => by simp at h, fun b _ h => by simp at h, fun b _ h => by simp at h, fun b _ h => by simp at h, fun b _ _ _ h => by simp at h⟩
theorem NoOwn.empty : NoOwn [] := fun b _ h => by simp at h
section
variable {H : Type} {enc : TypeId × Value → H} {P : Program} {W : World} {base : Nat}
theorem okWide_one {t : TypeId} {v : Value} {ks : List CK} {n : Nat} (hk : kindsOf P (n + 1) t = some ks) (hs : isRow P t = false) (h : Value.okWide P W .any base t v) : v.cells.toList = [v] := by
  unfold isRow at hs
  simp only [kindsOf] at hk
  unfold Value.okWide Cell.okWide Cell.ok at h
  cases hu : P.underlying t with
  | none => rw [hu] at hk; cases hk
  | some d =>
    rw [hu] at hk h hs
    cases d <;> simp only [Bool.true_eq_false] at hs <;> (try (cases hk; done)) <;> cases v <;> first | rfl | exact h.elim
theorem opens_args : ∀ (ts : List TypeId) (ps : List (Bool × List CK)) (vs : List Value) (ds : List (DataW H)) (pl : List MemPlace), paramsK P ts = some ps → DataW.TrodAll enc P W 0 (fun _ => true) true ts vs ds pl →
    (∀ (j : Nat) (t : TypeId) (v : Value), ts[j]? = some t → vs[j]? = some v → Value.okWide P W .any base t v) →
    ∀ (h : Heap) (μ : Map), HRel μ h W → NoOwn h → ∃ (h' : Heap) (μ' : Map) (avs : List Value), h <+: h' ∧ Up μ h μ' h' ∧ HRel μ' h' W ∧ NoOwn h' ∧ All2 (VR μ' h') avs vs ∧ All2 (ArgOk h') ps avs
  | [], ps, vs, ds, pl, hp, ht, _, h, μ, R, N => by
    simp [paramsK] at hp
    subst hp
    obtain ⟨rfl, _, _⟩ := Go.ChangeShapes.trodAll_nil ht
    exact ⟨h, μ, [], List.prefix_refl _, Up.refl _ _, R, N, All2.nil, All2.nil⟩
  | t :: ts, ps, vs, ds, pl, hp, ht, hw, h, μ, R, N => by
    simp only [paramsK] at hp
    split at hp
    · rename_i ks ps' hk hps
      cases hp
      obtain ⟨v, vs', d, ds', p, q, rfl, rfl, rfl, ⟨fuel, hf⟩, htr⟩ := Go.ChangeShapes.trodAll_cons ht
      obtain ⟨h1, μ1, acs, p1, u1, R1, N1, v1, s1⟩ := opens_kinds (fun _ => rfl) 12 t ks hk fuel _ _ hf h μ R N
      obtain ⟨h2, μ2, avs, p2, u2, R2, N2, v2, s2⟩ := opens_args ts ps' vs' ds' q hps htr (fun j t v h1 h2 => hw (j + 1) t v (by simpa using h1) (by simpa using h2)) h1 μ1 R1 N1
      have hv := hw 0 t v rfl rfl
      have vv : All2 (VR1 μ2 h2) acs v.cells.toList := v1.imp fun _ _ k => .base _ _ (k.up u2)
      cases hr : isRow P t with
      | true =>
        have hst : ∃ cs : Array Value, v = .agg cs := by
          unfold isRow at hr
          split at hr
          · rename_i fs hu
            obtain ⟨cs, hcs, _⟩ := Go.WideShapes.okWide_struct hu hv
            exact ⟨cs, hcs⟩
          · cases hr
        obtain ⟨⟨cs⟩, rfl⟩ := hst
        exact ⟨h2, μ2, .agg ⟨acs⟩ :: avs, p1.trans p2, u1.trans u2, R2, N2, All2.cons (.val _ _ (.agg _ _ vv)) v2, All2.cons ⟨acs, s1.imp fun _ _ k => k.up p2, by simp⟩ s2⟩
      | false =>
        have h1c := okWide_one hk hr hv
        rw [h1c] at vv
        have hal : acs.length = 1 := vv.1
        match acs, hal with
        | [av], _ =>
          exact ⟨h2, μ2, av :: avs, p1.trans p2, u1.trans u2, R2, N2, All2.cons (.val _ _ (.one _ _ (vv.2 0 av v rfl rfl))) v2, All2.cons ⟨[av], s1.imp fun _ _ k => k.up p2, by simp⟩ s2⟩
    · cases hp
theorem trodAll_below {W' : World} (hl : laidOutB P = true) : ∀ {ts : List TypeId} {vs : List Value} {ds : List (DataW H)} {pl : List MemPlace}, (ts.all fun t => P.readableRec t && decide (t < P.types.size)) = true → DataW.TrodAll enc P W 0 (fun _ => true) true ts vs ds pl →
    Below W.heap.size W W' → (∀ x ∈ pl, x.block < W.heap.size) → DataW.TrodAll enc P W' 0 (fun b => decide (b < W.heap.size)) true ts vs ds pl
  | [], vs, ds, pl, _, h, _, _ => by
    obtain ⟨rfl, rfl, rfl⟩ := Go.ChangeShapes.trodAll_nil h
    rfl
  | t :: ts, vs, ds, pl, hr, h, hb, hlt => by
    obtain ⟨v, vs', d, ds', p, q, rfl, rfl, rfl, h1, h2⟩ := Go.ChangeShapes.trodAll_cons h
    simp only [List.all_cons, Bool.and_eq_true, decide_eq_true_eq] at hr
    exact ⟨p, q, Below.trod hl hr.1.1 hr.1.2 h1 hb (fun x hx => hlt x (List.mem_append_left _ hx)), trodAll_below hl (by simpa using hr.2) h2 hb (fun x hx => hlt x (List.mem_append_right _ hx)), rfl⟩
end
def noX : CallF := fun _ _ _ => none
/-- A law that is true of all arguments, in the small language, is so in the machine. -/
theorem law_calls {H : Type} {enc : TypeId × Value → H} {P : Program} {W : World} {f : FuncId} {ts : List TypeId} {ps : List (Bool × List CK)} {X : CallF} (sound : ∀ n, SoundC P W (call T X n)) (hp : paramsK P ts = some ps)
    (law : ∀ (h : Heap) (avs : List Value), All2 (ArgOk h) ps avs → C T X f avs h = some (.bool true, h))
    {base : Nat} {args : Array Value} {ds : List (DataW H)} {pl : List MemPlace} (ht : DataW.TrodAll enc P W 0 (fun _ => true) true ts args.toList ds pl)
    (hw : ∀ (j : Nat) (t : TypeId) (v : Value), ts[j]? = some t → args.toList[j]? = some v → Value.okWide P W .any base t v) :
    Calls P f args W fun e W' => e = .returned (.bool true) ∧ Below W.heap.size W W' := by
  obtain ⟨h, μ, avs, _, _, R, N, va, sa⟩ := opens_args ts ps args.toList ds pl hp ht hw [] (fun _ => ⟨0, 0, 0⟩) HRel.empty NoOwn.empty
  obtain ⟨n, hn⟩ := C_to T X (law h avs sa)
  obtain ⟨_, hc⟩ := sound n f avs h _ _ hn
  have hG : Gd W μ h W := ⟨Nat.le_refl _, fun g _ => ⟨rfl, fun ⟨b, blk, hb, ho, _⟩ => by rw [N b blk hb] at ho; cases ho⟩⟩
  have := hc μ W args.toList R hG va
  refine this.mono fun e W' hq => ?_
  obtain ⟨v', μ', rfl, h1, h2, h3⟩ := hq
  refine ⟨by rw [h1.bool], h3.frame.os, h3.frame.tape, h3.frame.output, h3.frame.size, fun k hk => h3.frame.block k hk ?_⟩
  rintro ⟨b, blk, hb, ho, _⟩
  rw [N b blk hb] at ho
  cases ho
end Go.Proofs.YthfeahanmbmjhaaGreatDoor.Ab
/- Arguments taken apart: what a shown argument is, kind by kind. No conditions. -/
namespace Go.Proofs.YthfeahanmbmjhaaGreatDoor.Ab
open Go.RowKit
theorem All2.nil_inv {α β : Type} {R : α → β → Prop} {ys : List β} (h : All2 R [] ys) : ys = [] := by
  have := h.1
  cases ys with
  | nil => rfl
  | cons y ys => simp at this
theorem All2.cons_inv {α β : Type} {R : α → β → Prop} {x : α} {xs : List α} {ys : List β} (h : All2 R (x :: xs) ys) : ∃ y ys', ys = y :: ys' ∧ R x y ∧ All2 R xs ys' := by
  have := h.1
  cases ys with
  | nil => simp at this
  | cons y ys =>
    refine ⟨y, ys, rfl, h.2 0 x y rfl rfl, by simpa using this, fun i a b ha hb => h.2 (i + 1) a b (by simpa using ha) (by simpa using hb)⟩
section
variable {h : Heap} {v : Value}
theorem wf64 {n : Int} (hw : (Lit.int .i64 n).wf = true) : I64 n := by
  have h : IntKind.i64.min ≤ n ∧ n ≤ IntKind.i64.max := by simpa [Lit.wf] using hw
  exact ⟨h.1, h.2⟩
theorem Shape.int_inv (s : Shape h (.int .i64) v) : ∃ n, v = .int .i64 n ∧ I64 n := by
  cases s with
  | int k n hw => exact ⟨n, rfl, wf64 hw⟩
theorem Shape.bool_inv (s : Shape h .bool v) : ∃ b, v = .bool b := by
  cases s with
  | bool b => exact ⟨b, rfl⟩
theorem Shape.str_inv (s : Shape h .str v) : ∃ b, v = .string b ∧ b.size ≤ maxLen := by
  cases s with
  | str b hs => exact ⟨b, rfl, hs⟩
theorem Shape.sl_inv {e : List CK} (s : Shape h (.sl e) v) : ∃ rows, Rows h e.length v rows ∧ rows.length ≤ maxLen ∧ ∀ r ∈ rows, All2 (Shape h) e r := by
  cases s with
  | sl e v rows hr hm hk => exact ⟨rows, hr, hm, fun r hrm => ⟨(hr.len r hrm).symm, fun i k x h1 h2 => hk r hrm i k x h1 h2⟩⟩
theorem rows_map {α : Type} {f : α → List Value} {Q : α → Prop} : ∀ {rows : List (List Value)}, (∀ r ∈ rows, ∃ a, r = f a ∧ Q a) → ∃ l : List α, rows = l.map f ∧ ∀ a ∈ l, Q a
  | [], _ => ⟨[], rfl, fun _ h => by cases h⟩
  | r :: rows, hr => by
    obtain ⟨a, ha, qa⟩ := hr r List.mem_cons_self
    obtain ⟨l, hl, ql⟩ := rows_map (fun r h => hr r (List.mem_cons_of_mem _ h))
    exact ⟨a :: l, by simp [ha, hl], fun b hb => by
      rcases List.mem_cons.1 hb with rfl | hb
      · exact qa
      · exact ql b hb⟩
/-- A list of numbers. -/
theorem Shape.ints_inv (s : Shape h (.sl [.int .i64]) v) : ∃ l : List Int, Rows h 1 v (ints l) ∧ l.length ≤ maxLen ∧ ∀ n ∈ l, I64 n := by
  obtain ⟨rows, hr, hm, hk⟩ := s.sl_inv
  obtain ⟨l, rfl, hl⟩ := rows_map (f := fun n : Int => [Value.int .i64 n]) (Q := I64) (rows := rows) (fun r hrm => by
    obtain ⟨x, r', rfl, hx, h2⟩ := (hk r hrm).cons_inv
    obtain rfl := h2.nil_inv
    obtain ⟨n, rfl, hn⟩ := hx.int_inv
    exact ⟨n, rfl, hn⟩)
  exact ⟨l, hr, by simpa using hm, hl⟩
end
theorem ArgOk.row {h : Heap} {ks : List CK} {v : Value} (a : ArgOk h (true, ks) v) : ∃ acs, All2 (Shape h) ks acs ∧ v = .agg ⟨acs⟩ := by
  obtain ⟨acs, h1, h2⟩ := a
  exact ⟨acs, h1, by simpa using h2⟩
theorem ArgOk.cell {h : Heap} {k : CK} {v : Value} (a : ArgOk h (false, [k]) v) : Shape h k v := by
  obtain ⟨acs, h1, h2⟩ := a
  obtain ⟨x, r, rfl, hx, h3⟩ := h1.cons_inv
  obtain rfl := h3.nil_inv
  obtain rfl : x = v := by simpa using h2
  exact hx
theorem trodAll_len {H : Type} {enc : TypeId × Value → H} {P : Program} {W : World} {spare : Nat → Bool} {held : Bool} : ∀ {ts : List TypeId} {vs : List Value} {ds : List (DataW H)} {pl : List MemPlace}, DataW.TrodAll enc P W 0 spare held ts vs ds pl → ds.length = ts.length
  | [], vs, ds, pl, h => by
    obtain ⟨_, rfl, _⟩ := Go.ChangeShapes.trodAll_nil h
    rfl
  | t :: ts, vs, ds, pl, h => by
    obtain ⟨v, vs', d, ds', p, q, rfl, rfl, rfl, _, h2⟩ := Go.ChangeShapes.trodAll_cons h
    simp [trodAll_len h2]
theorem len1 {α : Type} {l : List α} (h : l.length = 1) : ∃ a, l = [a] := List.length_eq_one_iff.1 h
theorem len2 {α : Type} {l : List α} (h : l.length = 2) : ∃ a b, l = [a, b] := by
  match l, h with
  | [a, b], _ => exact ⟨a, b, rfl⟩
theorem len3 {α : Type} {l : List α} (h : l.length = 3) : ∃ a b c, l = [a, b, c] := by
  match l, h with
  | [a, b, c], _ => exact ⟨a, b, c, rfl⟩
theorem len4 {α : Type} {l : List α} (h : l.length = 4) : ∃ a b c d, l = [a, b, c, d] := by
  match l, h with
  | [a, b, c, d], _ => exact ⟨a, b, c, d, rfl⟩
end Go.Proofs.YthfeahanmbmjhaaGreatDoor.Ab
set_option linter.unusedSimpArgs false
set_option linter.unusedVariables false
set_option linter.unnecessarySimpa false
set_option maxHeartbeats 4000000
namespace Go.Proofs.YthfeahanmbmjhaaGreatDoor.Ab
open Go.RowKit
theorem var_below {P : Program} {w w' : World} {n : String} {cs : Array Value} (hb : Below w.heap.size w w') (h : w.var? P n = some cs) : w'.var? P n = some cs := by
  unfold World.var? at h ⊢
  cases hg : P.globalNamed n with
  | none => rw [hg] at h; cases h
  | some g =>
    rw [hg] at h
    simp only [Option.bind_some] at h ⊢
    have hlt : g < w.heap.size := by
      apply Classical.byContradiction
      intro hc
      rw [Array.getElem?_eq_none (by omega)] at h
      cases h
    rw [hb.block g hlt]
    exact h
theorem grow_below {w : World} (k : Nat) (os : Array Obj) : Below w.heap.size w (Go.Sort.grow (w.drewN k) os) :=
  ⟨rfl, rfl, rfl, by simp [Go.Sort.grow], fun k hk => by simp only [Go.Sort.grow]; rw [Array.getElem?_append_left (by simpa using hk)]; rfl⟩
set_option maxRecDepth 100000 in
theorem w_itoa (n : Int) (h0 : -9223372036854775808 ≤ n) (h1 : n ≤ 9223372036854775807) (w : World) (htab : Lib.TabIs Tryz.prog w "internal/strconv.uint64pow10" .u64 Lib.pow10Tab) :
    Calls Tryz.prog 45 #[.int .i64 n] w fun e w' => e = .returned (.string ⟨(Lib.itoa n).toArray⟩) ∧ Below w.heap.size w w' := by
  go_enter Tryz.func45, Tryz.ntmps45
  go_wp2_with (go_at_call 62; refine (Tryz.strconv_Itoa n h0 h1 _ htab).mono ?_; rintro e w' ⟨rfl, hw⟩)
  go_ret
  obtain ⟨k, os, rfl⟩ := hw
  exact ⟨rfl, grow_below k os⟩
theorem tab_below {w w' : World} (hb : Below w.heap.size w w') (h : Lib.TabIs Tryz.prog w "internal/strconv.uint64pow10" .u64 Lib.pow10Tab) : Lib.TabIs Tryz.prog w' "internal/strconv.uint64pow10" .u64 Lib.pow10Tab := var_below hb h
theorem atoi_world {w w' : World} (h : w' = w ∨ ∃ t, w' = Lib.bytesWorld w 5 t) : Below w.heap.size w w' := by
  rcases h with rfl | ⟨t, rfl⟩
  · exact Below.refl _ _
  · exact Lib.bytesWorld_below _ _ _
theorem itoa_nat {v : Int} (h : 0 ≤ v) : Lib.itoa v = Lib.decDigits v.toNat := by
  unfold Lib.itoa
  rw [if_neg (by omega)]
theorem rd_no {s : ByteArray} {v : Int} (h : Lib.atoiAll s.data.toList = .ok v) (hb : v < 0 ∨ 1000000000 < v ∨ (!Lib.itoa v == s.toList) = true) : rdDec s = none := by
  cases e : rdDec s with
  | none => rfl
  | some n =>
    have hv := atoi_ok h e
    obtain ⟨h1, h2⟩ := rdDec_some.1 e
    subst hv
    rcases hb with k | k | k
    · omega
    · omega
    · exfalso
      rw [itoa_nat (by omega), ByteArray.toList_eq, h2, decT_data] at k
      simp at k
theorem rd_yes {s : ByteArray} {v : Int} (h0 : 0 ≤ v) (h1 : v ≤ 1000000000) (hb : (!Lib.itoa v == s.toList) = false) : rdDec s = some v.toNat := by
  refine rdDec_some.2 ⟨by omega, ?_⟩
  simp only [Bool.not_eq_false', beq_iff_eq] at hb
  rw [itoa_nat h0, ByteArray.toList_eq] at hb
  apply ByteArray.ext
  apply Array.toList_inj.1
  rw [decT_data, hb]
/-- strconv.Atoi at what is no number: the library's theorem. -/
theorem atoi_bad (s : ByteArray) (hlim : s.size ≤ 281474976710656) {x : _} (h : Lib.atoiAll s.data.toList = x) (hx : (∀ v, x = .ok v → False) ∧ (x = .range → False)) (tp : TypeId) (p : Value) (w : World) (hvar : w.var? Tryz.prog "strconv.ErrSyntax" = some #[.iface tp p]) :
    Calls Tryz.prog 43 #[.string s] w fun e w' => ∃ N, e = .returned (.tuple #[.int .i64 0, .iface 98 (.pointer (some ⟨N, 0, none⟩))]) ∧ w.heap.size ≤ N ∧ w'.heap[N]? = some (.cells #[.string ⟨#[65, 116, 111, 105]⟩, .string s, .iface tp p] 107 (0, 0)) ∧ Below w.heap.size w w' := by
  cases x with
  | ok v => exact (hx.1 v rfl).elim
  | range => exact (hx.2 rfl).elim
  | _ => exact Go.Proofs.Any.strconv_Atoi_syntax_var Tryz.laysC172 s hlim h tp p w hvar
set_option maxRecDepth 100000 in
theorem w_rd (s : ByteArray) (hlim : s.size ≤ 281474976710656) (w : World) (htab : Lib.TabIs Tryz.prog w "internal/strconv.uint64pow10" .u64 Lib.pow10Tab) {tp tp' : TypeId} {p p' : Value} (hv : w.var? Tryz.prog "strconv.ErrSyntax" = some #[.iface tp p]) (hv' : w.var? Tryz.prog "strconv.ErrRange" = some #[.iface tp' p']) :
    Calls Tryz.prog 29 #[.string s] w fun e w' => e = .returned (.tuple #[.int .i64 (dcN s), .bool (dcB s)]) ∧ Below w.heap.size w w' := by
  cases h : Lib.atoiAll s.data.toList with
  | ok v =>
    go_enter Tryz.func29, Tryz.ntmps29
    go_wp2_with (first | (go_at_call 43; refine (Tryz.strconv_Atoi_ok s (by omega) v h _).mono ?_; rintro e w' ⟨rfl, hw⟩) | (go_at_call 45; refine (w_itoa v ?_ ?_ _ (tab_below (atoi_world hw) htab)).mono ?_; rotate_left 2; rintro e w2 ⟨rfl, hw2⟩) | go_in)
    · go_ret2
      rename_i _ w2 hw2 hb
      exact ⟨by simp [dcN, dcB, rd_no h (.inr hb)], (atoi_world hw).trans (hw2.mono (atoi_world hw).size)⟩
    · go_ret2
      rename_i h0 _ hb
      exact ⟨by simp [dcN, dcB, rd_yes h0 hb.1 hb.2, Int.toNat_of_nonneg h0], (atoi_world hw).trans (hw2.mono (atoi_world hw).size)⟩
    · omega
    · omega
    · go_ret2
      rename_i _ hb
      exact ⟨by simp [dcN, dcB, rd_no h (.inr (.inl hb))], atoi_world hw⟩
    · go_ret2
      rename_i hb
      exact ⟨by simp [dcN, dcB, rd_no h (.inl hb)], atoi_world hw⟩
  | range =>
    have hn := atoi_none (s := s) (fun v hv => by rw [h] at hv; cases hv)
    go_enter Tryz.func29, Tryz.ntmps29
    go_wp2_with (first | (go_at_call 43; refine (Tryz.strconv_Atoi_range_var s hlim h tp' p' _ hv').mono ?_; rintro e W1 ⟨N, rfl, -, -, hb⟩) | go_in)
    go_ret2
    exact ⟨by simp [dcN, dcB, hn], hb⟩
  | _ =>
    have hn := atoi_none (s := s) (fun v hv => by rw [h] at hv; cases hv)
    have ha := fun w hv => atoi_bad s hlim h ⟨fun v k => (nomatch k), fun k => (nomatch k)⟩ tp p w hv
    go_enter Tryz.func29, Tryz.ntmps29
    go_wp2_with (first | (go_at_call 43; refine (ha _ hv).mono ?_; rintro e W1 ⟨N, rfl, -, -, hb⟩) | go_in)
    go_ret2
    exact ⟨by simp [dcN, dcB, hn], hb⟩
/-- What the first world holds of the library's tables. -/
structure LibW (W : World) : Prop where
  tab : Lib.TabIs Tryz.prog W "internal/strconv.uint64pow10" .u64 Lib.pow10Tab
  syn : ∃ t p, W.var? Tryz.prog "strconv.ErrSyntax" = some #[.iface t p]
  rng : ∃ t p, W.var? Tryz.prog "strconv.ErrRange" = some #[.iface t p]
theorem var_gd {P : Program} {W w : World} {μ : Map} {h : Heap} {n : String} {cs : Array Value} (G : Gd W μ h w) (e : W.var? P n = some cs) : w.var? P n = some cs := by
  unfold World.var? at e ⊢
  cases hg : P.globalNamed n with
  | none => rw [hg] at e; cases e
  | some g =>
    rw [hg] at e
    simp only [Option.bind_some] at e ⊢
    have hlt : g < W.heap.size := by
      apply Classical.byContradiction
      intro hc
      rw [Array.getElem?_eq_none (by omega)] at e
      cases e
    rw [(G.2 g hlt).1]
    exact e
theorem LibW.gd {W w : World} {μ : Map} {h : Heap} (L : LibW W) (G : Gd W μ h w) : LibW w := by
  obtain ⟨h1, ⟨t, p, h2⟩, ⟨t', p', h3⟩⟩ := L
  exact ⟨var_gd G h1, ⟨t, p, var_gd G h2⟩, ⟨t', p', var_gd G h3⟩⟩
/-- What the library does in the small language. -/
noncomputable def libX : CallF := fun f args h =>
  if f = n_impl_Decimal then match args with
    | [.int .i64 n] => if 0 ≤ n ∧ n ≤ 9223372036854775807 then some (.string (decT n.toNat), h) else none
    | _ => none
  else if f = n_impl_ReadDecimal then match args with
    | [.string s] => if s.size ≤ 281474976710656 then some (.tuple #[.int .i64 (dcN s), .bool (dcB s)], h) else none
    | _ => none
  else none
theorem below_to {μ : Map} {h : Heap} {w w' : World} (H : HRel μ h w) (hb : Below w.heap.size w w') : HRel μ h w' ∧ To μ h w μ h w' := by
  refine ⟨⟨fun b blk e i v hv => ?_, H.pos, fun b blk e => Nat.lt_of_lt_of_le (H.lt b blk e) hb.size, fun b blk e ho => ?_, H.sep⟩, Up.refl _ _, ⟨hb.os, hb.tape, hb.output, hb.size, fun k hk _ => hb.block k hk⟩, fun _ k => .inr k, fun _ k => .inr k⟩
  · obtain ⟨v', h1, h2⟩ := H.cell b blk e i v hv
    exact ⟨v', by rw [cell_of_same (hb.block _ (H.lt b blk e))]; exact h1, h2⟩
  · obtain ⟨h1, cur, h2, h3, h4⟩ := H.own b blk e ho
    exact ⟨h1, cur, by rw [hb.block _ (H.lt b blk e)]; exact h2, h3, h4⟩
theorem lib_sound {W : World} (L : LibW W) : SoundC Tryz.prog W libX := by
  intro f args h v h' hc
  unfold libX at hc
  split at hc
  · rename_i hf
    subst hf
    split at hc
    · rename_i n
      split at hc
      · rename_i hn
        cases hc
        refine ⟨fun args' w => enter_ok Tryz.func45 (by kernel_rfl) (show Tryz.f45.body = some _ from rfl) args' w, fun μ w args' H G ka => ?_⟩
        obtain ⟨y, ys, rfl, k1, k2⟩ := ka.cons_inv
        have e1 := k1.int
        have e2 := k2.nil_inv
        subst e1 e2
        refine (w_itoa n (by omega) (by omega) w (L.gd G).tab).mono fun e w' hq => ?_
        obtain ⟨rfl, hb⟩ := hq
        obtain ⟨h1, h2⟩ := below_to H hb
        refine ⟨_, μ, rfl, ?_, h1, h2⟩
        rw [itoa_nat hn.1, decT_lib]
        exact .val _ _ (.one _ _ (.base _ _ (.prim _ rfl)))
      · cases hc
    · cases hc
  · split at hc
    · rename_i hf
      subst hf
      split at hc
      · rename_i s
        split at hc
        · rename_i hn
          cases hc
          refine ⟨fun args' w => enter_ok Tryz.func29 (by kernel_rfl) (show Tryz.f29.body = some _ from rfl) args' w, fun μ w args' H G ka => ?_⟩
          obtain ⟨y, ys, rfl, k1, k2⟩ := ka.cons_inv
          have e1 := k1.string
          have e2 := k2.nil_inv
          subst e1 e2
          obtain ⟨q1, ⟨t2, p2, q2⟩, ⟨t3, p3, q3⟩⟩ := L.gd G
          refine (w_rd s hn w q1 q2 q3).mono fun e w' hq => ?_
          obtain ⟨rfl, hb⟩ := hq
          obtain ⟨h1, h2⟩ := below_to H hb
          refine ⟨_, μ, rfl, ?_, h1, h2⟩
          refine .tup _ _ (All2.cons ?_ (All2.cons ?_ All2.nil))
          · exact .one _ _ (.base _ _ (.prim _ rfl))
          · exact .one _ _ (.base _ _ (.prim _ rfl))
        · cases hc
      · cases hc
    · cases hc
/-- A library. -/
class LibX (X : CallF) : Prop where
  dec : ∀ (n : Nat) (h : Heap), n ≤ 9223372036854775807 → X n_impl_Decimal [.int .i64 (n : Int)] h = some (.string (decT n), h)
  rd : ∀ (s : ByteArray) (h : Heap), s.size ≤ 281474976710656 → X n_impl_ReadDecimal [.string s] h = some (.tuple #[.int .i64 (dcN s), .bool (dcB s)], h)
instance : LibX libX where
  dec := fun n h hn => by
    unfold libX
    rw [if_pos rfl]
    simp only
    rw [if_pos ⟨by omega, by omega⟩, Int.toNat_natCast]
  rd := fun s h hs => by
    unfold libX
    rw [if_neg (by decide), if_pos rfl]
    simp only
    rw [if_pos hs]
theorem C_x {X : CallF} {f : FuncId} {l : List Value} {h : Heap} {r : Value × Heap} (hT : T f = none) (hx : X f l h = some r) : C T X f l h = some r :=
  by
  refine C_of (T := T) (X := X) (n := 1) ?_
  simp only [Ab.call, hT]
  exact hx
section
variable {X : CallF} [LibX X] {h : Heap}
theorem k_impl_ReadDecimal {s : ByteArray} (hs : s.size ≤ 281474976710656) : C T X n_impl_ReadDecimal [.string s] h = some (.tuple #[.int .i64 (dcN s), .bool (dcB s)], h) := C_x (by rfl) (LibX.rd s h hs)
end
end Go.Proofs.YthfeahanmbmjhaaGreatDoor.Ab
set_option linter.unusedSimpArgs false
set_option linter.unusedVariables false
set_option linter.unnecessarySimpa false
set_option maxHeartbeats 4000000
namespace Go.Proofs.YthfeahanmbmjhaaGreatDoor.Ab
open Go.RowKit
noncomputable def libS : CallF := fun f args h =>
  if f = n_strings_Count then match args with
    | [.string s, .string p] => match p.data.toList with
      | [c] => some (.int .i64 (Lib.countByte s.data.toList c), h)
      | _ => none
    | _ => none
  else if f = n_strings_Index then match args with
    | [.string s, .string p] => match p.data.toList with
      | [c] => some (.int .i64 (Lib.indexByte s.data.toList c), h)
      | _ => none
    | _ => none
  else if f = n_strings_IndexByte then match args with
    | [.string s, .int .u8 c] => some (.int .i64 (Lib.indexByte s.data.toList c.toNat.toUInt8), h)
    | _ => none
  else libX f args h
theorem one_sep {p : ByteArray} {c : UInt8} (h : p.data.toList = [c]) : p = ⟨#[c]⟩ := by
  apply ByteArray.ext
  apply Array.toList_inj.1
  rw [h]
theorem lib_soundS {W : World} (L : LibW W) : SoundC Tryz.prog W libS := by
  intro f args h v h' hc
  unfold libS at hc
  split at hc
  · rename_i hf
    subst hf
    split at hc
    · rename_i s p
      split at hc
      · rename_i c hp
        cases hc
        obtain rfl := one_sep hp
        refine ⟨fun args' w => enter_ok Tryz.func58 (by kernel_rfl) (show Tryz.f58.body = some _ from rfl) args' w, fun μ w args' H G ka => ?_⟩
        obtain ⟨y, ys, rfl, k1, k2⟩ := ka.cons_inv
        obtain ⟨y2, ys2, rfl, k3, k4⟩ := k2.cons_inv
        have e1 := k1.string
        have e2 := k3.string
        have e3 := k4.nil_inv
        subst e1 e2 e3
        refine (Tryz.strings_Count_one s c w).mono fun e w' hq => ?_
        obtain ⟨rfl, rfl⟩ := hq
        exact ⟨_, μ, rfl, .val _ _ (.one _ _ (.base _ _ (.prim _ rfl))), H, To.refl _ _ _⟩
      · cases hc
    · cases hc
  · split at hc
    · rename_i hf
      subst hf
      split at hc
      · rename_i s p
        split at hc
        · rename_i c hp
          cases hc
          obtain rfl := one_sep hp
          refine ⟨fun args' w => enter_ok Tryz.func59 (by kernel_rfl) (show Tryz.f59.body = some _ from rfl) args' w, fun μ w args' H G ka => ?_⟩
          obtain ⟨y, ys, rfl, k1, k2⟩ := ka.cons_inv
          obtain ⟨y2, ys2, rfl, k3, k4⟩ := k2.cons_inv
          have e1 := k1.string
          have e2 := k3.string
          have e3 := k4.nil_inv
          subst e1 e2 e3
          refine (Tryz.strings_Index_one s c w).mono fun e w' hq => ?_
          obtain ⟨rfl, rfl⟩ := hq
          exact ⟨_, μ, rfl, .val _ _ (.one _ _ (.base _ _ (.prim _ rfl))), H, To.refl _ _ _⟩
        · cases hc
      · cases hc
    · split at hc
      · rename_i hf
        subst hf
        split at hc
        · rename_i s c
          cases hc
          refine ⟨fun args' w => enter_ok Tryz.func64 (by kernel_rfl) (show Tryz.f64.body = some _ from rfl) args' w, fun μ w args' H G ka => ?_⟩
          obtain ⟨y, ys, rfl, k1, k2⟩ := ka.cons_inv
          obtain ⟨y2, ys2, rfl, k3, k4⟩ := k2.cons_inv
          have e1 := k1.string
          have e2 := k3.int
          have e3 := k4.nil_inv
          subst e1 e2 e3
          refine (Tryz.strings_IndexByte s c w).mono fun e w' hq => ?_
          obtain ⟨rfl, rfl⟩ := hq
          exact ⟨_, μ, rfl, .val _ _ (.one _ _ (.base _ _ (.prim _ rfl))), H, To.refl _ _ _⟩
        · cases hc
      · exact lib_sound L f args h v h' hc
/-- A library that knows texts. -/
class LibS (X : CallF) extends LibX X where
  cnt : ∀ (s : ByteArray) (c : UInt8) (h : Heap), X n_strings_Count [.string s, .string ⟨⟨[c]⟩⟩] h = some (.int .i64 (Lib.countByte s.data.toList c), h)
  idx : ∀ (s : ByteArray) (c : UInt8) (h : Heap), X n_strings_Index [.string s, .string ⟨⟨[c]⟩⟩] h = some (.int .i64 (Lib.indexByte s.data.toList c), h)
  ixb : ∀ (s : ByteArray) (c : Int) (h : Heap), X n_strings_IndexByte [.string s, .int .u8 c] h = some (.int .i64 (Lib.indexByte s.data.toList c.toNat.toUInt8), h)
instance : LibS libS where
  dec := fun n h hn => by
    unfold libS
    rw [if_neg (by decide), if_neg (by decide), if_neg (by decide)]
    exact LibX.dec n h hn
  rd := fun s h hs => by
    unfold libS
    rw [if_neg (by decide), if_neg (by decide), if_neg (by decide)]
    exact LibX.rd s h hs
  cnt := fun s c h => by
    unfold libS
    rw [if_pos rfl]
  idx := fun s c h => by
    unfold libS
    rw [if_neg (by decide), if_pos rfl]
  ixb := fun s c h => by
    unfold libS
    rw [if_neg (by decide), if_neg (by decide), if_pos rfl]
section
variable {X : CallF} [LibS X] {h : Heap}
theorem k_Count {s : ByteArray} {c : UInt8} : C T X n_strings_Count [.string s, .string ⟨⟨[c]⟩⟩] h = some (.int .i64 (Lib.countByte s.data.toList c), h) := C_x (by rfl) (LibS.cnt s c h)
theorem k_Index {s : ByteArray} {c : UInt8} : C T X n_strings_Index [.string s, .string ⟨⟨[c]⟩⟩] h = some (.int .i64 (Lib.indexByte s.data.toList c), h) := C_x (by rfl) (LibS.idx s c h)
theorem k_IndexByte {s : ByteArray} {c : Int} : C T X n_strings_IndexByte [.string s, .int .u8 c] h = some (.int .i64 (Lib.indexByte s.data.toList c.toNat.toUInt8), h) := C_x (by rfl) (LibS.ixb s c h)
end
end Go.Proofs.YthfeahanmbmjhaaGreatDoor.Ab
set_option linter.unusedSimpArgs false
set_option linter.unusedVariables false
set_option linter.unnecessarySimpa false
set_option maxHeartbeats 4000000
namespace Go.Proofs.YthfeahanmbmjhaaGreatDoor.Ab
open Go.RowKit
def laidL : List (String × DataW Unit) := [("math/bits.deBruijn32tab", Rows.laid_math_bits_deBruijn32tab), ("math/bits.deBruijn64tab", Rows.laid_math_bits_deBruijn64tab), ("internal/strconv.uint64pow10", Rows.laid_internal_strconv_uint64pow10), ("unicode/utf8.acceptRanges", Rows.laid_unicode_utf8_acceptRanges), ("strconv.ErrRange", Rows.laid_strconv_ErrRange), ("strconv.ErrSyntax", Rows.laid_strconv_ErrSyntax), ("unicode/utf8.first", Rows.laid_unicode_utf8_first)]
theorem g_syn : Tryz.prog.globalNamed "strconv.ErrSyntax" = some 1 := by kernel_rfl
theorem g_synT : (Tryz.prog.globals[1]?).map (·.type) = some 76 := by kernel_rfl
theorem g_rng : Tryz.prog.globalNamed "strconv.ErrRange" = some 2 := by kernel_rfl
theorem g_rngT : (Tryz.prog.globals[2]?).map (·.type) = some 76 := by kernel_rfl
theorem g_tab : Tryz.prog.globalNamed "internal/strconv.uint64pow10" = some 5 := by kernel_rfl
theorem g_tabT : (Tryz.prog.globals[5]?).map (·.type) = some 127 := by kernel_rfl
theorem ptr_star : "*" ++ "errors.errorString" = "*errors.errorString" := by decide
theorem ptr_row (u : TypeId) (h : Tryz.prog.typeName? 3 u = some "*errors.errorString") : u = 118 :=
  typeName_ptr_named (nm := "errors.errorString") (by rw [ptr_star]; kernel_rfl) (by kernel_rfl) (by decide) u (by rw [ptr_star]; exact h)
theorem libW_of {W : World} (h : laidMetH Tryz.prog laidL W) : LibW W := by
  rw [MakeChecks.laidMetH_plain _ _ _ (by kernel_rfl)] at h
  have h3 : laidMet Tryz.prog (("internal/strconv.uint64pow10", Lib.tabData .u64 Lib.pow10Tab) :: [("unicode/utf8.acceptRanges", Rows.laid_unicode_utf8_acceptRanges), ("strconv.ErrRange", Rows.laid_strconv_ErrRange), ("strconv.ErrSyntax", Rows.laid_strconv_ErrSyntax), ("unicode/utf8.first", Rows.laid_unicode_utf8_first)]) W := h.tail.tail
  obtain ⟨a0, s0, hv0, -, -, -⟩ := laid_sentinel h3.tail.tail g_rng g_rngT Tryz.underlying76 ptr_row Tryz.underlying118 Tryz.underlying120 rfl rfl Tryz.underlying9 (by kernel_rfl) (by kernel_rfl)
  obtain ⟨a1, s1, hv1, -, -, -⟩ := laid_sentinel h3.tail.tail.tail g_syn g_synT Tryz.underlying76 ptr_row Tryz.underlying118 Tryz.underlying120 rfl rfl Tryz.underlying9 (by kernel_rfl) (by kernel_rfl)
  exact ⟨Lib.tabIs_of_head g_tab g_tabT Tryz.underlying127 Tryz.underlying102 (by kernel_rfl) (by kernel_rfl) h3, ⟨_, _, hv1⟩, ⟨_, _, hv0⟩⟩
end Go.Proofs.YthfeahanmbmjhaaGreatDoor.Ab
