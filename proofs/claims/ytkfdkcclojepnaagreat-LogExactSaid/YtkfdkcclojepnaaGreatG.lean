/- Formulas. Conditions: none. -/
import Derived.Test.YtkfdkcclojepnaaGreatGf0
import Derived.Test.YtkfdkcclojepnaaGreatGf1
import Derived.Test.YtkfdkcclojepnaaGreatGf2
import Derived.Test.YtkfdkcclojepnaaGreatGf3
import Derived.Test.YtkfdkcclojepnaaGreatGf4
import Derived.Test.YtkfdkcclojepnaaGreatGf5
import Derived.Test.YtkfdkcclojepnaaGreatGf6
import Derived.Test.YtkfdkcclojepnaaGreatGf7
import Derived.Test.YtkfdkcclojepnaaGreatGf8
import Derived.Test.YtkfdkcclojepnaaGreatGf9
import Derived.Test.YtkfdkcclojepnaaGreatGf10
import Derived.Test.YtkfdkcclojepnaaGreatGf11
import Derived.Test.YtkfdkcclojepnaaGreatGf12
import Derived.Test.YtkfdkcclojepnaaGreatGf13
