/- Of each function of the program: the predicate that its translated code denotes, printed by wip/gen.py and checked by the kernel. Conditions: none. -/
import Derived.Test.YtnkdonpammdldaaDoorGf0
import Derived.Test.YtnkdonpammdldaaDoorGf1
import Derived.Test.YtnkdonpammdldaaDoorGf2
import Derived.Test.YtnkdonpammdldaaDoorGf3
import Derived.Test.YtnkdonpammdldaaDoorGf4
import Derived.Test.YtnkdonpammdldaaDoorGf5
