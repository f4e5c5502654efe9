/- A layer of abstract values over the model's worlds, part W: the arguments of a row: whatever can be read as data of plain types is settled data, of its type; and it reads behind the call as it did. It holds for every program. -/
import Derived.Test.YtapfhipodpbflaaGreatDoorAbK
import Derived.Test.YtapfhipodpbflaaGreatDoorAbP
import Derived.ReadAgain
import Derived.ChangeArms
import Derived.ChangeSame
import Derived.OpenShut
set_option linter.unusedVariables false
set_option linter.unusedSimpArgs false
set_option linter.unnecessarySimpa false
namespace Go.Ab
open Go

/-! ### Settled data of a type -/
def WTs (R : Nat → List PV → Prop) : List (Nat × Nat) → List PV → Prop
  | [], cs => cs = []
  | (_, t) :: r, cs => ∃ a b, cs = a ++ b ∧ R t a ∧ WTs R r b

/-- An element, from its cells. -/
def mkE (isAgg : Bool) (cs : List PV) : PV := bif isAgg then .agg cs else cs.headD (.agg [])

/-- What each string and slice that is read may take: 2^47 - 4096 bytes. -/
def maxW : Nat := 140737488351232

def WTf (tt : List (Nat × TI)) : Nat → Nat → List PV → Prop
  | 0, _, _ => False
  | n + 1, t, cs => match look tt t with
    | some ⟨.bool, _, _, _⟩ => ∃ b, cs = [.val (.bool b)]
    | some ⟨.int k, _, _, _⟩ => ∃ m, cs = [.val (.int k m)] ∧ (Lit.int k m).wf = true
    | some ⟨.string, _, _, _⟩ => ∃ l, cs = [.val (.string (str l))] ∧ l.length ≤ maxW
    | some ⟨.slice e, _, _, _⟩ => ∃ es, cs = [.slice es] ∧ (es.length ≤ maxLen ∧ es.length * (((look tt e).map (·.bytes)).getD 0) ≤ maxW) ∧ ∀ x ∈ es, WTf tt n e x.cells ∧ x = mkE (((look tt e).map (·.k.isAgg)).getD false) x.cells
    | some ⟨.struct fs, _, _, _⟩ => WTs (WTf tt n) fs cs
    | some ⟨.array k e, _, _, _⟩ => WTs (WTf tt n) (List.replicate k (0, e)) cs
    | _ => False

def tilesB (tt : List (Nat × TI)) : Nat → List (Nat × Nat) → Bool
  | _, [] => true
  | k, (o, t) :: r => Nat.beq o k && tilesB tt (k + ((look tt t).map (·.size)).getD 0) r

def plainT (tt : List (Nat × TI)) (l : List Nat) (t : Nat) : Bool := match look tt t with
  | some ⟨.bool, s, _, _⟩ => Nat.beq s 1
  | some ⟨.int _, s, _, _⟩ => Nat.beq s 1
  | some ⟨.string, s, _, _⟩ => Nat.beq s 1
  | some ⟨.slice e, s, _, _⟩ => Nat.beq s 1 && l.any (Nat.beq e) && Nat.blt 0 (((look tt e).map (·.size)).getD 0)
  | some ⟨.struct fs, s, _, _⟩ => fs.all (fun f => l.any (Nat.beq f.2)) && tilesB tt 0 fs && Nat.beq s ((fs.map fun f => ((look tt f.2).map (·.size)).getD 0).foldl (· + ·) 0)
  | some ⟨.array k e, s, _, _⟩ => l.any (Nat.beq e) && Nat.beq s (k * ((look tt e).map (·.size)).getD 0)
  | _ => false
theorem kind_arrayW {u : TypeDesc} {n e : Nat} (h : kindOf u = .array n e) : u = .array n e := by cases u <;> simp [kindOf] at h; obtain ⟨rfl, rfl⟩ := h; rfl

section
variable {H : Type} {enc : TypeId × Value → H} {P : Program} {tt : List (Nat × TI)} {W : World}

theorem cellsOf_of (good : TyGood P tt) {t : Nat} {i : TI} (h : look tt t = some i) : P.cellsOf t = i.size := by
  have := (good.at h).2
  simp only [Option.map_eq_some_iff, Prod.mk.injEq] at this
  obtain ⟨j, h1, h2, _⟩ := this
  simp [Program.cellsOf, h1, h2]

theorem bytesOf_of (good : TyGood P tt) {t : Nat} {i : TI} (h : look tt t = some i) : P.bytesOf t = i.bytes := by
  have := (good.at h).2
  simp only [Option.map_eq_some_iff, Prod.mk.injEq] at this
  obtain ⟨j, h1, h2, h3, _⟩ := this
  simp [Program.bytesOf, h1, h3]

theorem mem_weightsAll {e : TypeId} {w : Nat} : ∀ {ds : List (DataW H)} {d : DataW H}, d ∈ ds → w ∈ d.weights P e → w ∈ DataW.weightsAll P e ds
  | x :: r, d, hd, hw => by
    unfold DataW.weightsAll
    rcases List.mem_cons.1 hd with rfl | hd
    · exact List.mem_append_left _ hw
    · exact List.mem_append_right _ (mem_weightsAll hd hw)

theorem mem_weightsEach {w : Nat} : ∀ {ts : List TypeId} {ds : List (DataW H)} {i : Nat} {t : TypeId} {d : DataW H}, ts[i]? = some t → ds[i]? = some d → w ∈ d.weights P t → w ∈ DataW.weightsEach P ts ds
  | t0 :: ts, d0 :: ds, 0, t, d, ht, hd, hw => by
    simp only [List.getElem?_cons_zero, Option.some.injEq] at ht hd
    subst ht hd
    unfold DataW.weightsEach
    exact List.mem_append_left _ hw
  | t0 :: ts, d0 :: ds, i + 1, t, d, ht, hd, hw => by
    simp only [List.getElem?_cons_succ] at ht hd
    unfold DataW.weightsEach
    exact List.mem_append_right _ (mem_weightsEach ht hd hw)
  | [], _, i, _, _, ht, _, _ => by simp at ht
  | _ :: _, [], i, _, _, _, hd, _ => by simp at hd

def stW (W : World) : Nat → Nat → Prop := fun b _ => b < W.heap.size

theorem cells_at {a : Addr} {n m : Nat} {cs : List Value} (h : W.cells? 0 (a.add m) n = some cs) : cs.length = n ∧ ∀ j v, cs[j]? = some v → W.cell? ⟨a.block, a.off + m + j, none⟩ = some v ∧ a.block < W.heap.size := by
  unfold World.cells? at h
  rw [if_pos (Nat.zero_le _)] at h
  have hlen := mapM_some_length h
  refine ⟨by simpa using hlen, fun j v hv => ?_⟩
  have hj : j < n := by have := (List.getElem?_eq_some_iff.1 hv).1; simp at hlen; omega
  have h2 := mapM_some_get h j j (List.getElem?_range hj)
  rw [hv] at h2
  have key : ∀ b : Addr, W.cell? b = some v → b = ⟨b.block, b.off, none⟩ ∧ b.block < W.heap.size := by
    intro b hb
    unfold World.cell? at hb
    split at hb
    · rename_i c _ _ hc
      split at hb
      · cases hb
      · rename_i hs
        refine ⟨?_, (Array.getElem?_eq_some_iff.1 hc).1⟩
        cases b with
        | mk bl o s =>
          cases s with
          | none => rfl
          | some x => simp at hs
    · cases hb
  obtain ⟨k1, k2⟩ := key _ h2
  have eb : ((a.add m).add j).block = a.block := by
    unfold Addr.add
    split <;> split <;> rfl
  have eo : ((a.add m).add j).off = a.off + m + j := by
    unfold Addr.add
    by_cases q1 : m = 0 <;> by_cases q2 : j = 0 <;> simp only [q1, q2, if_true, if_false] <;> omega
  rw [eb, eo] at k1
  rw [k1] at h2
  exact ⟨h2, by rw [← eb]; exact k2⟩

theorem mk_isAgg (good : TyGood P tt) {l : List Nat} {e : Nat} (_hp : plainT tt l e = true) {n : Nat} {cs : List PV} (h : WTf tt n e cs) : (mkE (((look tt e).map (·.k.isAgg)).getD false) cs).cells = cs := by
  cases n with
  | zero => exact h.elim
  | succ n =>
    simp only [WTf] at h
    split at h
    · rename_i hl; obtain ⟨b, rfl⟩ := h; rw [hl]; rfl
    · rename_i hl; obtain ⟨m, rfl, _⟩ := h; rw [hl]; rfl
    · rename_i hl; obtain ⟨m, rfl, _⟩ := h; rw [hl]; rfl
    · rename_i hl; obtain ⟨m, rfl, _⟩ := h; rw [hl]; rfl
    · rename_i hl; rw [hl]; rfl
    · rename_i hl; rw [hl]; rfl
    · exact h.elim

/-- What reads as data of a plain type is settled data of that type. -/
theorem open_cells (good : TyGood P tt) {l : List Nat} (hp : l.all (plainT tt l) = true) : ∀ (n t : Nat) (cs : List Value) (x : DataW H × List MemPlace), t ∈ l → DataW.trod enc P W 0 (fun _ => true) true n t cs = some x → (∀ w ∈ x.1.weights P t, w ≤ maxW) →
    ∃ ps : List PV, ps.length = cs.length ∧ (∀ (i : Nat) p v, ps[i]? = some p → cs[i]? = some v → PRep W (stW W) p v ∧ p.one = true) ∧ WTf tt n t ps := by
  intro n
  induction n with
  | zero => intro t cs x _ h _; simp [DataW.trod] at h
  | succ n ih =>
    intro t cs x ht h hwt0
    have hpt := List.all_eq_true.1 hp t ht
    have hpt' := hpt
    unfold plainT at hpt
    have one : ∀ {p : PV} {v : Value}, PRep W (stW W) p v → p.one = true → ∀ (i : Nat) p' v', [p][i]? = some p' → [v][i]? = some v' → PRep W (stW W) p' v' ∧ p'.one = true := by
      intro p v h1 h2 i p' v' h3 h4
      cases i with
      | zero => simp at h3 h4; subst h3 h4; exact ⟨h1, h2⟩
      | succ i => simp at h3
    split at hpt
    · rename_i s b z hl
      obtain ⟨u, h1, h2⟩ := und_of good hl
      have h3 := kind_bool h2; subst h3
      obtain ⟨b, rfl, rfl⟩ := DataW.trod_bool h1 h
      exact ⟨[.val (.bool b)], rfl, one (.val _) rfl, by simp only [WTf, hl]; exact ⟨b, rfl⟩⟩
    · rename_i k s b z hl
      obtain ⟨u, h1, h2⟩ := und_of good hl
      have h3 := kind_int h2; subst h3
      obtain ⟨m, rfl, rfl, hw⟩ := DataW.trod_int h1 h
      exact ⟨[.val (.int k m)], rfl, one (.val _) rfl, by simp only [WTf, hl]; exact ⟨m, rfl, hw⟩⟩
    · rename_i s b z hl
      obtain ⟨u, h1, h2⟩ := und_of good hl
      have h3 := kind_string h2; subst h3
      obtain ⟨a, rfl, rfl, hw⟩ := DataW.trod_string h1 h
      refine ⟨[.val (.string (str a.data.toList))], rfl, one (prep_str a) rfl, ?_⟩
      simp only [WTf, hl]
      refine ⟨a.data.toList, rfl, ?_⟩
      exact hwt0 _ (by simp [DataW.weights])
    · rename_i e s b z hl
      obtain ⟨u, h1, h2⟩ := und_of good hl
      have h3 := kind_slice h2; subst h3
      simp only [Bool.and_eq_true] at hpt
      obtain ⟨⟨_, he⟩, hsz0⟩ := hpt
      have hel : e ∈ l := by
        obtain ⟨y, hy, hye⟩ := List.any_eq_true.1 he
        rw [Nat.eq_of_beq_eq_true hye]; exact hy
      have hpe := List.all_eq_true.1 hp e hel
      rcases DataW.trod_slice h1 h with ⟨rfl, rfl⟩ | ⟨a, len, cap, elems, rest, m, hm, rfl, rfl, hb, hlc, hcm, hlen, hget, hsp, _⟩
      · exact ⟨[.slice []], rfl, one .nils rfl, by simp only [WTf, hl]; exact ⟨[], rfl, ⟨Nat.zero_le _, by simp⟩, by simp⟩⟩
      · obtain rfl : n = m := by omega
        -- each element
        have each : ∀ i, i < len → ∃ cs' ps, W.cells? 0 (a.add (i * P.cellsOf e)) (P.cellsOf e) = some cs' ∧ ps.length = cs'.length ∧ (∀ (j : Nat) p v, ps[j]? = some p → cs'[j]? = some v → PRep W (stW W) p v ∧ p.one = true) ∧ WTf tt n e ps := by
          intro i hi
          have h4 := hget i hi
          rw [List.getElem?_eq_getElem (by omega)] at h4
          obtain ⟨cs', h5, h6⟩ := Option.bind_eq_some_iff.1 h4
          obtain ⟨ps, h7, h8, h9⟩ := ih e cs' _ hel h6 (fun w hw => hwt0 w (by
            simp only [DataW.weights, h1]
            exact List.mem_cons_of_mem _ (List.mem_append_left _ (mem_weightsAll (List.mem_map_of_mem (List.getElem_mem _)) hw))))
          exact ⟨cs', ps, h5, h7, h8, h9⟩
        have each' : ∃ f : Nat → List Value × List PV, ∀ i, i < len → W.cells? 0 (a.add (i * P.cellsOf e)) (P.cellsOf e) = some (f i).1 ∧ (f i).2.length = (f i).1.length ∧ (∀ (j : Nat) p v, (f i).2[j]? = some p → (f i).1[j]? = some v → PRep W (stW W) p v ∧ p.one = true) ∧ WTf tt n e (f i).2 := by
          refine ⟨fun i => if hi : i < len then (Classical.choose (each i hi), Classical.choose (Classical.choose_spec (each i hi))) else ([], []), fun i hi => ?_⟩
          simp only [dif_pos hi]
          exact Classical.choose_spec (Classical.choose_spec (each i hi))
        obtain ⟨f, hf⟩ := each'
        obtain ⟨ie, hie⟩ : ∃ ie, look tt e = some ie := by
          cases hq : look tt e with
          | none => unfold plainT at hpe; rw [hq] at hpe; simp at hpe
          | some ie => exact ⟨ie, rfl⟩
        have hcell := cellsOf_of good hie
        have hszpos : 0 < ie.size := by simpa [hie] using hsz0
        let es : List PV := (List.range len).map fun i => mkE (((look tt e).map (·.k.isAgg)).getD false) (f i).2
        have hesl : es.length = len := by simp [es]
        have hesg : ∀ (i : Nat) y, es[i]? = some y → i < len ∧ y.cells = (f i).2 ∧ y = mkE (((look tt e).map (·.k.isAgg)).getD false) (f i).2 := by
          intro i y hy
          simp only [es, List.getElem?_map, Option.map_eq_some_iff] at hy
          obtain ⟨j, hj, rfl⟩ := hy
          have hi : i < len := by have := (List.getElem?_eq_some_iff.1 hj).1; simpa using this
          rw [List.getElem?_range hi] at hj; cases hj
          exact ⟨hi, mk_isAgg good hpe (hf i hi).2.2.2, rfl⟩
        have hmem : ∀ y ∈ es, ∃ i, i < len ∧ y.cells = (f i).2 ∧ y = mkE (((look tt e).map (·.k.isAgg)).getD false) (f i).2 := by
          intro y hy
          obtain ⟨i, hi⟩ := List.mem_iff_getElem?.1 hy
          exact ⟨i, hesg i y hi⟩
        have hfl : ∀ i, i < len → (f i).2.length = ie.size := by
          intro i hi
          obtain ⟨g1, g2, _, _⟩ := hf i hi
          rw [hcell] at g1
          rw [g2]; exact (cells_at g1).1
        have hwt : WTf tt (n + 1) t [PV.slice es] := by
          simp only [WTf, hl]
          have hw0 := hwt0 ((elems.length + rest.length) * P.bytesOf e) (by
            simp only [DataW.weights, h1, List.length_map]
            exact List.mem_cons_self ..)
          rw [bytesOf_of good hie] at hw0
          refine ⟨es, rfl, ⟨by rw [hesl]; omega, ?_⟩, fun y hy => ?_⟩
          · rw [hesl, hie]
            exact Nat.le_trans (Nat.mul_le_mul_right _ (by omega)) hw0
          obtain ⟨i, hi, h5, h6⟩ := hmem y hy
          rw [h5]
          exact ⟨(hf i hi).2.2.2, h6⟩
        refine ⟨[.slice es], rfl, one ?_ rfl, hwt⟩
        rw [← hesl]
        by_cases hc0 : cap = 0
        · have : es = [] := List.eq_nil_of_length_eq_zero (by omega)
          rw [this, hc0]; exact .nile a
        · -- some cell is read, so the address is one of a cell
          have hspot : a = ⟨a.block, a.off, none⟩ := by
            by_cases hl0 : 0 < len
            · obtain ⟨g1, g2, _, _⟩ := hf 0 hl0
              rw [hcell, Nat.zero_mul] at g1
              obtain ⟨k1, k2⟩ := cells_at g1
              unfold World.cells? at g1
              rw [if_pos (Nat.zero_le _)] at g1
              have h2 := mapM_some_get g1 0 0 (List.getElem?_range hszpos)
              simp only [Addr.add, if_true] at h2
              rw [List.getElem?_eq_getElem (by omega)] at h2
              unfold World.cell? at h2
              split at h2
              · split at h2
                · cases h2
                · rename_i hs
                  cases a with
                  | mk bl o s =>
                    cases s with
                    | none => rfl
                    | some x => simp at hs
              · cases h2
            · obtain rfl : len = 0 := by omega
              obtain ⟨hr1, hr2⟩ := hsp rfl
              have h4 := hr2 0 (by omega)
              rw [List.getElem?_eq_getElem (by omega)] at h4
              obtain ⟨cs', g1, _⟩ := Option.bind_eq_some_iff.1 h4
              rw [hcell, Nat.zero_add, Nat.zero_mul] at g1
              have k1 := (cells_at g1).1
              unfold World.cells? at g1
              rw [if_pos (Nat.zero_le _)] at g1
              have h2 := mapM_some_get g1 0 0 (List.getElem?_range hszpos)
              simp only [Addr.add, if_true] at h2
              rw [List.getElem?_eq_getElem (by omega)] at h2
              unfold World.cell? at h2
              split at h2
              · split at h2
                · cases h2
                · rename_i hs
                  cases a with
                  | mk bl o s =>
                    cases s with
                    | none => rfl
                    | some x => simp at hs
              · cases h2
          rw [hspot]
          refine .slice ie.size (fun i j => ((f i).1[j]?).getD .nilFunc) (by rw [hesl]; omega) (fun y hy => ?_) (fun y hy c hc => ?_) (fun i y j c hy hc => ?_) (fun i y j c hy hc => ?_)
          · obtain ⟨i, hi, h5, _⟩ := hmem y hy
            rw [h5]; exact hfl i hi
          · obtain ⟨i, hi, h5, _⟩ := hmem y hy
            rw [h5] at hc
            obtain ⟨j, hj⟩ := List.mem_iff_getElem?.1 hc
            obtain ⟨g1, g2, g3, _⟩ := hf i hi
            have hjl : j < (f i).1.length := by have := (List.getElem?_eq_some_iff.1 hj).1; omega
            exact (g3 j c _ hj (List.getElem?_eq_getElem hjl)).2
          · obtain ⟨hi, h5, _⟩ := hesg i y hy
            rw [h5] at hc
            obtain ⟨g1, g2, g3, _⟩ := hf i hi
            rw [hcell] at g1
            have hjl : j < (f i).1.length := by have := (List.getElem?_eq_some_iff.1 hc).1; omega
            have := (cells_at g1).2 j _ (List.getElem?_eq_getElem hjl)
            rw [List.getElem?_eq_getElem hjl]
            exact ⟨this.2, this.1⟩
          · obtain ⟨hi, h5, _⟩ := hesg i y hy
            rw [h5] at hc
            obtain ⟨g1, g2, g3, _⟩ := hf i hi
            have hjl : j < (f i).1.length := by have := (List.getElem?_eq_some_iff.1 hc).1; omega
            rw [List.getElem?_eq_getElem hjl]
            exact (g3 j c _ hc (List.getElem?_eq_getElem hjl)).1
    · rename_i fs s b z hl
      obtain ⟨u, h1, h2⟩ := und_of good hl
      obtain ⟨F, rfl, hF⟩ := kind_struct h2
      obtain ⟨xs, m, hm, rfl, hcl, hxs, hfld⟩ := DataW.trod_struct h1 h
      obtain rfl : n = m := by omega
      simp only [Bool.and_eq_true] at hpt
      obtain ⟨⟨hall, htile⟩, hsum⟩ := hpt
      have hcell := cellsOf_of good hl
      rw [hcell] at hcl
      have hcl : cs.length = s := hcl
      have hs := Nat.eq_of_beq_eq_true hsum
      -- field by field
      have go : ∀ (gs : List Field) (k : Nat), (∀ f ∈ gs, f.type ∈ l ∧ ∃ y, DataW.trod enc P W 0 (fun _ => true) true n f.type ((cs.drop f.offset).take (P.cellsOf f.type)) = some y ∧ ∀ w ∈ y.1.weights P f.type, w ≤ maxW) → tilesB tt k (gs.map fun f => (f.offset, f.type)) = true →
          k + ((gs.map fun f => ((look tt f.type).map (·.size)).getD 0).foldl (· + ·) 0) = cs.length →
          ∃ ps : List PV, ps.length = (cs.drop k).length ∧ (∀ (i : Nat) p v, ps[i]? = some p → (cs.drop k)[i]? = some v → PRep W (stW W) p v ∧ p.one = true) ∧ WTs (WTf tt n) (gs.map fun f => (f.offset, f.type)) ps := by
        intro gs
        induction gs with
        | nil =>
          intro k _ _ hk
          simp at hk
          refine ⟨[], ?_, by simp, rfl⟩
          simp; omega
        | cons f gs ihg =>
          intro k hfs htl hk
          simp only [List.map_cons, tilesB, Bool.and_eq_true] at htl
          obtain ⟨ho, htl⟩ := htl
          have ho := Nat.eq_of_beq_eq_true ho
          obtain ⟨hfl, y, hy, hyw⟩ := hfs f (by simp)
          obtain ⟨ps1, p1, p2, p3⟩ := ih f.type _ y hfl hy hyw
          obtain ⟨fi, hfi⟩ : ∃ fi, look tt f.type = some fi := by
            have hpe := List.all_eq_true.1 hp f.type hfl
            cases hq : look tt f.type with
            | none => unfold plainT at hpe; rw [hq] at hpe; simp at hpe
            | some ie => exact ⟨ie, rfl⟩
          have hfc := cellsOf_of good hfi
          have hsz : ((look tt f.type).map (·.size)).getD 0 = fi.size := by rw [hfi]; rfl
          have fold_add : ∀ (q : List Nat) (a : Nat), q.foldl (· + ·) a = a + q.foldl (· + ·) 0 := by
            intro q
            induction q with
            | nil => intro a; simp
            | cons x q ihq => intro a; simp only [List.foldl_cons]; rw [ihq, ihq (0 + x)]; omega
          simp only [List.map_cons, List.foldl_cons] at hk
          rw [fold_add] at hk
          rw [hsz] at hk htl
          obtain ⟨ps2, q1, q2, q3⟩ := ihg (k + fi.size) (fun g hg => hfs g (by simp [hg])) htl (by omega)
          rw [ho, hfc] at p1 p2
          have hl1 : ps1.length = fi.size := by rw [p1]; simp; omega
          refine ⟨ps1 ++ ps2, ?_, fun i p v hp' hv => ?_, ps1, ps2, rfl, p3, q3⟩
          · simp only [List.length_append, List.length_drop] at q1 ⊢; omega
          · rcases Nat.lt_or_ge i fi.size with hi | hi
            · rw [List.getElem?_append_left (by omega)] at hp'
              refine p2 i p v hp' ?_
              rw [List.getElem?_take_of_lt hi]; exact hv
            · rw [List.getElem?_append_right (by omega)] at hp'
              refine q2 (i - ps1.length) p v hp' ?_
              rw [List.getElem?_drop] at hv ⊢
              rw [← hv]; congr 1; omega
      have hFl : F.toList.map (fun f => (f.offset, f.type)) = fs := hF
      have hz : (F.toList.map fun f => ((look tt f.type).map (·.size)).getD 0) = fs.map fun f => ((look tt f.2).map (·.size)).getD 0 := by
        rw [← hFl, List.map_map]; rfl
      obtain ⟨ps, r1, r2, r3⟩ := go F.toList 0 (fun f hf => by
        obtain ⟨i, hi⟩ := List.mem_iff_getElem?.1 hf
        have hi' : F[i]? = some f := by simpa using hi
        have h5 := hfld i f hi'
        have hil : i < xs.length := by rw [hxs]; exact (Array.getElem?_eq_some_iff.1 hi').1
        rw [List.getElem?_eq_getElem hil] at h5
        refine ⟨?_, _, h5, fun w hw => hwt0 w (by
          simp only [DataW.weights, h1]
          exact mem_weightsEach (i := i) (by simpa using ⟨f, hi', rfl⟩) (by rw [List.getElem?_map, List.getElem?_eq_getElem hil]; rfl) hw)⟩
        have h6 := List.all_eq_true.1 hall (f.offset, f.type) (by rw [← hFl]; exact List.mem_map.2 ⟨f, hf, rfl⟩)
        obtain ⟨y, hy, hye⟩ := List.any_eq_true.1 h6
        rw [show f.type = y from Nat.eq_of_beq_eq_true hye]; exact hy) (by rw [hFl]; exact htile) (by rw [hz, ← hs]; omega)
      refine ⟨ps, by simpa using r1, by simpa using r2, ?_⟩
      simp only [WTf, hl]
      rw [← hFl]; exact r3
    · rename_i k e s b z hl
      obtain ⟨u, h1, h2⟩ := und_of good hl
      have h3 := kind_arrayW h2; subst h3
      obtain ⟨xs, m, hm, rfl, hcl, hxs, hel⟩ := DataW.trod_array h1 h
      obtain rfl : n = m := by omega
      simp only [Bool.and_eq_true] at hpt
      obtain ⟨hany, hsum⟩ := hpt
      have hin : e ∈ l := by
        obtain ⟨y, hy, hye⟩ := List.any_eq_true.1 hany
        rw [show e = y from Nat.eq_of_beq_eq_true hye]; exact hy
      have hcell := cellsOf_of good hl
      rw [hcell] at hcl
      have hcl : cs.length = s := hcl
      have hs := Nat.eq_of_beq_eq_true hsum
      obtain ⟨ie, hie⟩ : ∃ ie, look tt e = some ie := by
        have hpe := List.all_eq_true.1 hp e hin
        cases hq : look tt e with
        | none => unfold plainT at hpe; rw [hq] at hpe; simp at hpe
        | some ie => exact ⟨ie, rfl⟩
      have hec := cellsOf_of good hie
      have hsz : ((look tt e).map (·.size)).getD 0 = ie.size := by rw [hie]; rfl
      rw [hsz] at hs
      rw [hec] at hel
      have go : ∀ (r j : Nat), j + r = k → ∃ ps : List PV, ps.length = (cs.drop (j * ie.size)).length ∧ (∀ (i : Nat) p v, ps[i]? = some p → (cs.drop (j * ie.size))[i]? = some v → PRep W (stW W) p v ∧ p.one = true) ∧ WTs (WTf tt n) (List.replicate r (0, e)) ps := by
        intro r
        induction r with
        | zero =>
          intro j hj
          have hjk : j = k := by omega
          refine ⟨[], ?_, by simp, rfl⟩
          rw [hjk, List.length_drop]; simp; omega
        | succ r ihr =>
          intro j hj
          have hjk : j < k := by omega
          have h5 := hel j hjk
          rw [List.getElem?_eq_getElem (by omega)] at h5
          obtain ⟨ps1, p1, p2, p3⟩ := ih e _ _ hin h5 (fun w hw => hwt0 w (by
            simp only [DataW.weights, h1]
            exact mem_weightsAll (List.mem_map_of_mem (List.getElem_mem _)) hw))
          obtain ⟨ps2, q1, q2, q3⟩ := ihr (j + 1) (by omega)
          have hmul : (j + 1) * ie.size = j * ie.size + ie.size := Nat.succ_mul ..
          have hle : (j + 1) * ie.size ≤ k * ie.size := Nat.mul_le_mul_right _ hjk
          have hl1 : ps1.length = ie.size := by rw [p1, List.length_take, List.length_drop]; omega
          rw [hmul] at q1 q2
          refine ⟨ps1 ++ ps2, ?_, fun i p v hp' hv => ?_, ps1, ps2, rfl, p3, q3⟩
          · simp only [List.length_append, List.length_drop] at q1 ⊢; omega
          · rcases Nat.lt_or_ge i ie.size with hi | hi
            · rw [List.getElem?_append_left (by omega)] at hp'
              refine p2 i p v hp' ?_
              rw [List.getElem?_take_of_lt hi]; exact hv
            · rw [List.getElem?_append_right (by omega)] at hp'
              refine q2 (i - ps1.length) p v hp' ?_
              rw [List.getElem?_drop] at hv ⊢
              rw [← hv]; congr 1; omega
      obtain ⟨ps, r1, r2, r3⟩ := go k 0 (by omega)
      refine ⟨ps, by simpa using r1, by simpa using r2, ?_⟩
      simp only [WTf, hl]
      exact r3
    · cases hpt

/-- Arguments. -/
def WTv (tt : List (Nat × TI)) (t : Nat) (p : PV) : Prop := ∃ n, WTf tt n t p.cells ∧ p = mkE (((look tt t).map (·.k.isAgg)).getD false) p.cells
def WTa (tt : List (Nat × TI)) : List Nat → List PV → Prop
  | [], [] => True
  | t :: ts, p :: ps => WTv tt t p ∧ WTa tt ts ps
  | _, _ => False

theorem open_arg (good : TyGood P tt) {l : List Nat} (hp : l.all (plainT tt l) = true) {t base : Nat} (ht : t ∈ l) {v : Value} {d : DataW H} {ps : List MemPlace} (hv : Value.okWide P W .any base t v) (h : DataW.Trod enc P W 0 (fun _ => true) true t v d ps) (hw : ∀ w ∈ d.weights P t, w ≤ maxW) :
    ∃ p, PRep W (stW W) p v ∧ WTv tt t p := by
  obtain ⟨n, hn⟩ := h
  obtain ⟨qs, h1, h2, h3⟩ := open_cells good hp n t _ _ ht hn hw
  have hpt := List.all_eq_true.1 hp t ht
  have hcs := mk_isAgg good hpt h3
  refine ⟨mkE (((look tt t).map (·.k.isAgg)).getD false) qs, ?_, n, by rw [hcs]; exact h3, by rw [hcs]⟩
  have single : ((look tt t).map (·.k.isAgg)).getD false = false → v.cells = #[v] → qs.length = 1 → PRep W (stW W) (mkE (((look tt t).map (·.k.isAgg)).getD false) qs) v := by
    intro h4 h5 h6
    rw [h4]
    obtain ⟨q, rfl⟩ := List.length_eq_one_iff.1 h6
    exact (h2 0 q v rfl (by rw [h5]; rfl)).1
  unfold plainT at hpt
  split at hpt
  · rename_i s b z hl
    obtain ⟨u, k1, k2⟩ := und_of good hl
    have k3 := kind_bool k2; subst k3
    simp only [Value.okWide, k1, Cell.okWide] at hv
    cases v <;> simp [Cell.ok, k1] at hv
    exact single (by rw [hl]; rfl) rfl (by rw [h1]; rfl)
  · rename_i k s b z hl
    obtain ⟨u, k1, k2⟩ := und_of good hl
    have k3 := kind_int k2; subst k3
    simp only [Value.okWide, k1, Cell.okWide] at hv
    cases v <;> simp [Cell.ok, k1] at hv
    exact single (by rw [hl]; rfl) rfl (by rw [h1]; rfl)
  · rename_i s b z hl
    obtain ⟨u, k1, k2⟩ := und_of good hl
    have k3 := kind_string k2; subst k3
    simp only [Value.okWide, k1, Cell.okWide] at hv
    cases v <;> simp [Cell.ok, k1] at hv
    exact single (by rw [hl]; rfl) rfl (by rw [h1]; rfl)
  · rename_i e s b z hl
    obtain ⟨u, k1, k2⟩ := und_of good hl
    have k3 := kind_slice k2; subst k3
    simp only [Value.okWide, k1, Cell.okWide] at hv
    cases v <;> simp [Cell.ok, k1] at hv
    all_goals exact single (by rw [hl]; rfl) rfl (by rw [h1]; rfl)
  · rename_i fs s b z hl
    obtain ⟨u, k1, k2⟩ := und_of good hl
    obtain ⟨F, rfl, _⟩ := kind_struct k2
    simp only [Value.okWide, k1] at hv
    obtain ⟨vs, rfl, _⟩ := hv
    rw [hl]
    exact .agg (by simpa [Value.cells] using h1.symm) fun i c v hc hv => (h2 i c v hc (by simpa [Value.cells] using hv)).1
  · rename_i k e s b z hl
    obtain ⟨u, k1, k2⟩ := und_of good hl
    have k3 := kind_arrayW k2; subst k3
    simp only [Value.okWide, k1] at hv
    obtain ⟨vs, rfl, _⟩ := hv
    rw [hl]
    exact .agg (by simpa [Value.cells] using h1.symm) fun i c v hc hv => (h2 i c v hc (by simpa [Value.cells] using hv)).1
  · cases hpt

theorem open_args {base : Nat} (good : TyGood P tt) {l : List Nat} (hp : l.all (plainT tt l) = true) : ∀ {ts : List Nat} {vs : List Value} {ds : List (DataW H)} {ps : List MemPlace}, (∀ t ∈ ts, t ∈ l) → (∀ (j : Nat) t v, ts[j]? = some t → vs[j]? = some v → Value.okWide P W .any base t v) →
    DataW.TrodAll enc P W 0 (fun _ => true) true ts vs ds ps → (∀ w ∈ DataW.weightsEach P ts ds, w ≤ maxW) → ∃ qs, qs.length = vs.length ∧ (∀ (i : Nat) c v, qs[i]? = some c → vs[i]? = some v → PRep W (stW W) c v) ∧ WTa tt ts qs
  | [], [], [], _, _, _, _, _ => ⟨[], rfl, by simp, trivial⟩
  | t :: ts, v :: vs, d :: ds, ps, hts, hok, ⟨p, q, h1, h2, _⟩, hw => by
    obtain ⟨c, k1, k2⟩ := open_arg good hp (hts t (by simp)) (hok 0 t v rfl rfl) h1 (fun w hw0 => hw w (mem_weightsEach (i := 0) rfl rfl hw0))
    obtain ⟨qs, m1, m2, m3⟩ := open_args good hp (fun t ht => hts t (by simp [ht])) (fun j t v hj hv => hok (j + 1) t v hj hv) h2 (fun w hw0 => hw w (by unfold DataW.weightsEach; exact List.mem_append_right _ hw0))
    refine ⟨c :: qs, by simp [m1], fun i c' v' hc hv => ?_, k2, m3⟩
    cases i with
    | zero => simp at hc hv; subst hc hv; exact k1
    | succ i => simp only [List.getElem?_cons_succ] at hc hv; exact m2 i c' v' hc hv
  | [], _ :: _, _, _, _, _, h, _ => h.elim
  | [], [], _ :: _, _, _, _, h, _ => h.elim
  | _ :: _, [], _, _, _, _, h, _ => h.elim
  | _ :: _, _ :: _, [], _, _, _, h, _ => h.elim

/-! ### The arguments read as they did -/
theorem grown_same {W' : World} (hg : Kept W W') {p : MemPlace} (hp : p.block < W.heap.size) : W.sameAt W' p := by
  cases p with
  | cell b o =>
    simp only [MemPlace.block] at hp
    simp only [World.sameAt, World.cell?, hg.block b hp]
  | map b => exact hg.block b hp

theorem args_carry {W' : World} (hg : Kept W W') : ∀ {ts : List Nat} {vs : List Value} {ds : List (DataW H)} {ps : List MemPlace}, (∀ p ∈ ps, p.block < W.heap.size) → DataW.TrodAll enc P W 0 (fun _ => true) true ts vs ds ps → DataW.TrodAll enc P W' 0 (fun _ => true) true ts vs ds ps
  | [], [], [], _, _, h => h
  | _ :: _, _ :: _, _ :: _, _, hlt, ⟨p, q, ⟨n, h1⟩, h2, e⟩ =>
    ⟨p, q, ⟨n, DataW.trod_carry n _ _ _ h1 (fun x hx => grown_same hg (hlt x (by rw [e]; exact List.mem_append_left _ hx)))⟩, args_carry hg (fun x hx => hlt x (by rw [e]; exact List.mem_append_right _ hx)) h2, e⟩
  | [], _ :: _, _, _, _, h => h.elim
  | [], [], _ :: _, _, _, h => h.elim
  | _ :: _, [], _, _, _, h => h.elim
  | _ :: _, _ :: _, [], _, _, h => h.elim

theorem args_back (hl : laidOutB P = true) (hm : mapsRowed P = true) (hz : ((List.range P.types.size).all fun t => match P.underlying t with | some (.slice e) => decide (0 < P.cellsOf e) | _ => true) = true)
    {W' : World} (hg : Kept W W') {ts : List Nat} {vs : List Value} {ds : List (DataW H)} {ps : List MemPlace} (hts : (ts.all fun t => decide (t < P.types.size)) = true) (hlt : ∀ p ∈ ps, p.block < W.heap.size)
    (h : DataW.TrodAll enc P W 0 (fun _ => true) true ts vs ds ps) (sp : Nat → Bool) (hsp : ∀ p ∈ ps, sp p.block = true) : DataW.TrodAll enc P W' 0 sp true ts vs ds ps :=
  DataW.TrodAll.respare (kids_rows hl hm) (slices_full_of P hz) (fun t ht => by simpa using List.all_eq_true.1 hts t ht) (args_carry hg hlt h) hsp
end

open Go.ChangeShapes Go.WideShapes in
/-- What a row asks of the world behind the call, where old blocks are as they were (new blocks may be frozen). -/
theorem post_kept {H : Type} {enc : TypeId × Value → H} {P : Program} {f : Func} {s : ChangeSpec} {apart fresh handsOn again : Bool} {W W' : World} {args : Array Value} {v : Value} {ds gs : List (DataW H)} {before pa pv : List MemPlace}
    (hW : DataW.Whole enc P f.params.toList s.vars apart W args.toList ds gs before)
    (hres : ∀ (b : Nat) (sp : Nat → Bool) (hd : Bool), DataW.TrodAll enc P W' b sp hd f.resultTypes.toList (v.resultList f.resultTypes.size) (s.fn H (ds ++ gs)).results [])
    (hargs : ∀ sp : Nat → Bool, (∀ p ∈ before, sp p.block = true) → DataW.TrodAll enc P W' 0 sp true f.params.toList args.toList (s.fn H (ds ++ gs)).args pa)
    (hvars : ∀ sp : Nat → Bool, (∀ p ∈ before, sp p.block = true) → DataW.TrodVars enc P W' sp s.vars (s.fn H (ds ++ gs)).vars pv)
    (hps : before = pa ++ pv) (hk : Kept W W')
    (hok : ∀ (j : Nat) (t : TypeId) (r : Value), f.resultTypes[j]? = some t → (v.resultList f.resultTypes.size)[j]? = some r → Value.okWide P W' .any 0 t r) :
    s.post enc P f apart fresh handsOn again W args v W' := by
  have hold : ∀ p ∈ before, (fun b => decide (b < W.heap.size)) p.block = true := fun p hp => by simpa using hW.lt p hp
  have hlt : ∀ p ∈ before, p.block < W.heap.size := fun p hp => hW.lt p hp
  refine ⟨ds, gs, before, [], pa, pv, hW, hres _ _ _, hargs _ hold, hvars _ hold, hk.frame _, fun _ => ?_⟩
  obtain ⟨_, _, _, _, _, hz, hn⟩ := hW
  refine ⟨hok, _, _, ([] ++ pa) ++ pv, ⟨[] ++ pa, pv, trodAll_append (hargs _ (fun _ _ => rfl)) (hres _ _ _), hvars _ (fun _ _ => rfl), rfl, ?_, ?_⟩, ?_⟩
  · intro b off hp
    have hp' : MemPlace.cell b off ∈ before := by rw [hps]; simpa using hp
    rw [hk.frozen ⟨b, off, none⟩ (hlt _ hp')]
    exact hz b off hp'
  · intro ha
    have := hn ha
    rw [hps] at this
    simpa using this
  · intro p hp _
    rw [hps]
    simpa using hp

/-! ### From settled data of a type to a value -/
section
variable {tt : List (Nat × TI)} {n t : Nat} {cs : List PV} {s b : Nat} {z : List Value}
theorem dec_bool (hl : look tt t = some ⟨.bool, s, b, z⟩) (h : WTf tt n t cs) : ∃ x, cs = [eB x] := by
  cases n with
  | zero => exact h.elim
  | succ n => simp only [WTf, hl] at h; exact h
theorem dec_int {k : IntKind} (hl : look tt t = some ⟨.int k, s, b, z⟩) (h : WTf tt n t cs) : ∃ x, cs = [eK k x] ∧ (Lit.int k x).wf = true := by
  cases n with
  | zero => exact h.elim
  | succ n => simp only [WTf, hl] at h; exact h
theorem wf_i64 {x : Int} (h : (Lit.int .i64 x).wf = true) : inR x := by
  simp [Lit.wf, IntKind.min, IntKind.max, IntKind.bits, IntKind.signed] at h
  exact ⟨by omega, by omega⟩
theorem dec_i64 (hl : look tt t = some ⟨.int .i64, s, b, z⟩) (h : WTf tt n t cs) : ∃ x, cs = [eI x] ∧ inR x := by
  obtain ⟨x, h1, h2⟩ := dec_int hl h
  exact ⟨x, h1, wf_i64 h2⟩
theorem dec_str (hl : look tt t = some ⟨.string, s, b, z⟩) (h : WTf tt n t cs) : ∃ x, cs = [eS x] ∧ x.length ≤ maxW := by
  cases n with
  | zero => exact h.elim
  | succ n => simp only [WTf, hl] at h; exact h
theorem dec_list {α : Type} (f : α → PV) (Q : α → Prop) {e : Nat} (hl : look tt t = some ⟨.slice e, s, b, z⟩) (h : WTf tt (n + 1) t cs)
    (he : ∀ x, WTf tt n e x.cells → x = mkE (((look tt e).map (·.k.isAgg)).getD false) x.cells → ∃ y, x = f y ∧ Q y) : ∃ l : List α, cs = [eL f l] ∧ (l.length ≤ maxLen ∧ l.length * (((look tt e).map (·.bytes)).getD 0) ≤ maxW) ∧ ∀ y ∈ l, Q y := by
  simp only [WTf, hl] at h
  obtain ⟨es, rfl, h2, h3⟩ := h
  have key : ∀ es : List PV, (∀ x ∈ es, ∃ y, x = f y ∧ Q y) → ∃ l : List α, es = l.map f ∧ ∀ y ∈ l, Q y := by
    intro es
    induction es with
    | nil => intro _; exact ⟨[], rfl, by simp⟩
    | cons x r ih =>
      intro h
      obtain ⟨y, h1, h2⟩ := h x (by simp)
      obtain ⟨l, h3, h4⟩ := ih fun z hz => h z (by simp [hz])
      refine ⟨y :: l, by simp [h1, h3], fun z hz => ?_⟩
      rcases List.mem_cons.1 hz with rfl | hz
      · exact h2
      · exact h4 z hz
  obtain ⟨l, rfl, h5⟩ := key es fun x hx => he x (h3 x hx).1 (h3 x hx).2
  exact ⟨l, rfl, by simpa using h2, h5⟩
theorem mk1_eq {x c : PV} (h1 : x.cells = [c]) (h2 : x = mkE false x.cells) : x = c := by rw [h1] at h2; exact h2
theorem mkA_eq {x : PV} {l : List PV} (h1 : x.cells = l) (h2 : x = mkE true x.cells) : x = .agg l := by rw [h1] at h2; exact h2
theorem wts_cons {R : Nat → List PV → Prop} {o u : Nat} {r : List (Nat × Nat)} (h : WTs R ((o, u) :: r) cs) : ∃ a q, cs = a ++ q ∧ R u a ∧ WTs R r q := h
theorem dec_struct {fs : List (Nat × Nat)} (hl : look tt t = some ⟨.struct fs, s, b, z⟩) (h : WTf tt (n + 1) t cs) : WTs (WTf tt n) fs cs := by
  simp only [WTf, hl] at h; exact h
theorem dec_array {k e : Nat} (hl : look tt t = some ⟨.array k e, s, b, z⟩) (h : WTf tt (n + 1) t cs) : WTs (WTf tt n) (List.replicate k (0, e)) cs := by
  simp only [WTf, hl] at h; exact h
end

end Go.Ab
